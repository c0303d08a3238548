/- The small commands of schedules' entries; Entries: their order, their groups, their check; of both sides; CheckEntries of both sides; The small commands of chapter 6's texts. -/
import Derived.Test.YtaegjihmpgdfcaaDoorA2
import Derived.Test.YtaegjihmpgdfcaaDoorExV
section
set_option linter.unusedVariables false
set_option linter.unusedSimpArgs false
namespace Go.Proofs.P4
open Go.Ex
def k24_0 : Cmd := (.block 1 (.seq (.reg false [⟨(some 15), none, (.mov (.t 13)), []⟩, ⟨(some 16), none, (.iaddr (.t 11) (.t 13) 6), []⟩, ⟨(some 17), none, (.ld (.t 16) (some 6)), []⟩, ⟨(some 5), none, (.alloc [(.int .i64 0), (.int .i64 0), (.str []), (.str []), (.str []), (.bool false)]), []⟩, ⟨(some 4), none, (.mov (.t 15)), []⟩, ⟨none, none, (.st (.t 5) (.t 17) 6), []⟩]) (.seq (.seq (.reg false [⟨(some 18), none, (.ld (.t 5) (some 6)), []⟩, ⟨(some 19), none, (.call 51 [(.t 18)]), []⟩, ⟨(some 6), none, (.mov (.t 19)), []⟩]) (.seq (.reg false [⟨(some 20), none, (.mov (.t 6)), []⟩, ⟨(some 21), none, (.bin .neq (.t 20) (.c (.int .i64 0))), []⟩]) (.cond (.t 21) (.seq (.reg false [⟨(some 22), none, (.mov (.t 6)), []⟩, ⟨(some 2), none, (.mov (.t 22)), []⟩]) .ret) .skip))) (.seq (.seq (.reg true [⟨(some 23), none, (.mov (.t 4)), []⟩, ⟨(some 24), none, (.bin .gtr (.t 23) (.c (.int .i64 0))), []⟩, ⟨(some 25), none, (.mov (.t 24)), []⟩, ⟨(some 26), (some (25, true)), (.mov (.t 0)), []⟩, ⟨(some 27), (some (25, true)), (.mov (.t 4)), []⟩, ⟨(some 28), (some (25, true)), (.bin .sub (.t 27) (.c (.int .i64 1))), []⟩, ⟨(some 29), (some (25, true)), (.iaddr (.t 26) (.t 28) 6), []⟩, ⟨(some 30), (some (25, true)), (.ld (.t 29) (some 6)), []⟩, ⟨(some 31), (some (25, true)), (.ld (.t 5) (some 6)), []⟩, ⟨(some 32), (some (25, true)), (.call 52 [(.t 30), (.t 31)]), []⟩, ⟨(some 33), (some (25, true)), (.bin .geq (.t 32) (.c (.int .i64 0))), []⟩, ⟨(some 34), none, (.pick (.t 25) (.t 33) (.c (.bool false))), []⟩]) (.cond (.t 34) (.seq (.reg false [⟨(some 2), none, (.mov (.c (.int .i64 8))), []⟩]) .ret) .skip)) (.reg false [⟨(some 35), none, (.mov (.t 3)), []⟩, ⟨(some 36), none, (.faddr (.t 5) 0), []⟩, ⟨(some 37), none, (.ld (.t 36) none), []⟩, ⟨none, none, (.mset (some .i64) (.t 35) (.t 37) (.c (.bool true))), []⟩])))))
abbrev l24_0 : Cmd := cnt 0 14 13 12 38 k24_0
def c24 : Cmd := (.seq (.reg false [⟨(some 2), none, (.mov (.c (.int .i64 0))), []⟩]) (.seq (.seq (.reg false [⟨(some 7), none, (.mov (.t 0)), []⟩, ⟨(some 8), none, (.len false (.t 7)), []⟩, ⟨(some 9), none, (.bin .gtr (.t 8) (.c (.int .i64 1000))), []⟩]) (.cond (.t 9) (.seq (.reg false [⟨(some 2), none, (.mov (.c (.int .i64 2))), []⟩]) .ret) .skip)) (.seq (.reg false [⟨(some 10), none, .mnew, []⟩, ⟨(some 3), none, (.mov (.t 10)), []⟩]) (.seq (.seq (.reg false [⟨(some 11), none, (.mov (.t 0)), []⟩, ⟨(some 12), none, (.len false (.t 11)), []⟩, ⟨(some 13), none, (.mov (.c (.int .i64 0))), []⟩]) (.block 0 (.loop l24_0))) (.seq (.block 2 (.seq (.reg false [⟨(some 40), none, (.mov (.t 3)), []⟩, ⟨(some 41), none, (.mlen (.t 40)), []⟩, ⟨(some 42), none, (.mov (.t 0)), []⟩, ⟨(some 43), none, (.len false (.t 42)), []⟩, ⟨(some 44), none, (.bin .lss (.t 41) (.t 43)), []⟩, ⟨(some 39), none, (.mov (.t 44)), []⟩]) (.cond (.t 39) (.seq (.reg false [⟨(some 2), none, (.mov (.c (.int .i64 7))), []⟩]) .ret) (.seq (.reg false [⟨(some 46), none, (.mov (.t 0)), []⟩, ⟨(some 47), none, (.call 53 [(.t 46)]), []⟩, ⟨(some 45), none, (.mov (.t 47)), []⟩]) (.cond (.t 45) (.seq (.reg false [⟨(some 2), none, (.mov (.c (.int .i64 2))), []⟩]) .ret) .skip))))) (.seq (.reg false [⟨(some 2), none, (.mov (.c (.int .i64 0))), []⟩]) .ret))))))
theorem h24 : compF Tryd.prog sh 24 = some (c24, [2], 48) := by kernel_rfl
def c52 : Cmd := (.seq (.reg false [⟨(some 2), none, (.box (.t 0)), []⟩, ⟨(some 3), none, (.box (.t 1)), []⟩, ⟨(some 4), none, (.mov (.c (.int .i64 0))), []⟩]) (.seq (.reg true [⟨(some 5), none, (.faddr (.t 2) 1), []⟩, ⟨(some 6), none, (.ld (.t 5) none), []⟩, ⟨(some 7), none, (.faddr (.t 3) 1), []⟩, ⟨(some 8), none, (.ld (.t 7) none), []⟩, ⟨(some 9), none, (.call 82 [(.t 6), (.t 8)]), []⟩, ⟨(some 10), none, (.faddr (.t 2) 0), []⟩, ⟨(some 11), none, (.ld (.t 10) none), [4]⟩, ⟨(some 12), none, (.faddr (.t 3) 0), []⟩, ⟨(some 13), none, (.ld (.t 12) none), [4]⟩, ⟨(some 14), none, (.call 82 [(.t 11), (.t 13)]), []⟩, ⟨(some 15), none, (.bs 2 1 [(.int .i64 0)] [(0, (.t 9)), (1, (.t 14))]), []⟩, ⟨(some 16), none, (.call 81 [(.t 15)]), []⟩, ⟨(some 4), none, (.mov (.t 16)), []⟩]) .ret))
theorem h52 : compF Tryd.prog sh 52 = some (c52, [4], 17) := by kernel_rfl
def k53_0 : Cmd := (.block 1 (.seq (.reg false [⟨(some 11), none, (.iaddr (.t 7) (.t 9) 6), []⟩, ⟨(some 12), none, (.ld (.t 11) (some 6)), []⟩, ⟨(some 5), none, (.alloc [(.int .i64 0), (.int .i64 0), (.str []), (.str []), (.str []), (.bool false)]), []⟩, ⟨none, none, (.st (.t 5) (.t 12) 6), []⟩]) (.seq (.reg false [⟨(some 13), none, (.faddr (.t 5) 3), []⟩, ⟨(some 14), none, (.ld (.t 13) none), []⟩, ⟨(some 15), none, (.bin .neq (.t 14) (.c (.str []))), []⟩]) (.cond (.t 15) (.reg false [⟨(some 16), none, (.mov (.t 3)), []⟩, ⟨(some 17), none, (.faddr (.t 5) 3), []⟩, ⟨(some 18), none, (.ld (.t 17) none), []⟩, ⟨none, none, (.mset none (.t 16) (.t 18) (.c (.bool true))), []⟩]) .skip))))
abbrev l53_0 : Cmd := cnt 0 10 9 8 19 k53_0
def c53 : Cmd := (.seq (.reg false [⟨(some 2), none, (.mov (.c (.bool false))), []⟩]) (.seq (.reg false [⟨(some 6), none, .mnew, []⟩, ⟨(some 3), none, (.mov (.t 6)), []⟩]) (.seq (.seq (.reg false [⟨(some 7), none, (.mov (.t 0)), []⟩, ⟨(some 8), none, (.len false (.t 7)), []⟩, ⟨(some 9), none, (.mov (.c (.int .i64 0))), []⟩]) (.block 0 (.loop l53_0))) (.seq (.reg false [⟨(some 20), none, (.mov (.t 3)), []⟩, ⟨(some 21), none, (.mlen (.t 20)), []⟩, ⟨(some 22), none, (.bin .gtr (.t 21) (.c (.int .i64 50))), []⟩, ⟨(some 2), none, (.mov (.t 22)), []⟩]) .ret))))
theorem h53 : compF Tryd.prog sh 53 = some (c53, [2], 23) := by kernel_rfl
def k81_0 : Cmd := (.block 1 (.seq (.reg false [⟨(some 10), none, (.iaddr (.t 6) (.t 8) 1), []⟩, ⟨(some 11), none, (.ld (.t 10) none), []⟩, ⟨(some 5), none, (.mov (.t 11)), []⟩]) (.seq (.reg false [⟨(some 12), none, (.mov (.t 5)), []⟩, ⟨(some 13), none, (.mov (.t 3)), []⟩, ⟨(some 14), none, (.bin .neq (.t 12) (.t 13)), []⟩]) (.cond (.t 14) (.seq (.reg false [⟨(some 15), none, (.mov (.t 5)), []⟩, ⟨(some 2), none, (.mov (.t 15)), []⟩]) .ret) .skip))))
abbrev l81_0 : Cmd := cnt 0 9 8 7 16 k81_0
def c81 : Cmd := (.seq (.reg false [⟨(some 2), none, (.mov (.c (.int .i64 0))), []⟩]) (.seq (.reg false [⟨(some 3), none, (.mov (.c (.int .i64 0))), []⟩]) (.seq (.seq (.reg false [⟨(some 6), none, (.mov (.t 0)), []⟩, ⟨(some 7), none, (.len false (.t 6)), []⟩, ⟨(some 8), none, (.mov (.c (.int .i64 0))), []⟩]) (.block 0 (.loop l81_0))) (.seq (.reg false [⟨(some 17), none, (.mov (.t 3)), []⟩, ⟨(some 2), none, (.mov (.t 17)), []⟩]) .ret))))
theorem h81 : compF Tryd.prog sh 81 = some (c81, [2], 18) := by kernel_rfl
def c82 : Cmd := (.seq (.reg false [⟨(some 4), none, (.mov (.c (.int .i64 0))), []⟩]) (.seq (.reg false [⟨(some 7), none, (.mov (.t 0)), []⟩, ⟨(some 8), none, (.call 97 [(.t 7)]), []⟩, ⟨(some 5), none, (.mov (.t 8)), []⟩]) (.seq (.reg false [⟨(some 9), none, (.mov (.t 1)), []⟩, ⟨(some 10), none, (.call 97 [(.t 9)]), []⟩, ⟨(some 6), none, (.mov (.t 10)), []⟩]) (.seq (.seq (.reg false [⟨(some 11), none, (.mov (.t 5)), []⟩]) (.cond (.t 11) (.seq (.seq (.reg false [⟨(some 12), none, (.mov (.t 6)), []⟩]) (.cond (.t 12) (.seq (.reg false [⟨(some 4), none, (.mov (.c (.int .i64 0))), []⟩]) .ret) .skip)) (.seq (.reg false [⟨(some 4), none, (.mov (.c (.int .i64 (-1)))), []⟩]) .ret)) .skip)) (.seq (.seq (.reg false [⟨(some 13), none, (.mov (.t 6)), []⟩]) (.cond (.t 13) (.seq (.reg false [⟨(some 4), none, (.mov (.c (.int .i64 1))), []⟩]) .ret) .skip)) (.seq (.seq (.reg false [⟨(some 14), none, (.mov (.t 0)), []⟩, ⟨(some 15), none, (.mov (.t 1)), []⟩, ⟨(some 16), none, (.bin .lss (.t 14) (.t 15)), []⟩]) (.cond (.t 16) (.seq (.reg false [⟨(some 4), none, (.mov (.c (.int .i64 (-1)))), []⟩]) .ret) .skip)) (.seq (.seq (.reg false [⟨(some 17), none, (.mov (.t 0)), []⟩, ⟨(some 18), none, (.mov (.t 1)), []⟩, ⟨(some 19), none, (.bin .gtr (.t 17) (.t 18)), []⟩]) (.cond (.t 19) (.seq (.reg false [⟨(some 4), none, (.mov (.c (.int .i64 1))), []⟩]) .ret) .skip)) (.seq (.reg false [⟨(some 4), none, (.mov (.c (.int .i64 0))), []⟩]) .ret))))))))
theorem h82 : compF Tryd.prog sh 82 = some (c82, [4], 20) := by kernel_rfl
def c97 : Cmd := (.seq (.reg false [⟨(some 2), none, (.mov (.c (.bool false))), []⟩]) (.seq (.reg false [⟨(some 3), none, (.mov (.t 0)), []⟩, ⟨(some 4), none, (.mov (.t 0)), []⟩, ⟨(some 5), none, (.bin .neq (.t 3) (.t 4)), []⟩, ⟨(some 2), none, (.mov (.t 5)), []⟩]) .ret))
theorem h97 : compF Tryd.prog sh 97 = some (c97, [2], 6) := by kernel_rfl
def l30_0 : Cmd := (.seq (.seq (.reg false [⟨(some 9), none, (.mov (.t 3)), []⟩, ⟨(some 10), none, (.mov (.t 0)), []⟩, ⟨(some 11), none, (.len false (.t 10)), []⟩, ⟨(some 12), none, (.bin .lss (.t 9) (.t 11)), []⟩]) (.cond (.t 12) .skip (.exit 0))) (.seq (.block 1 (.seq (.seq (.reg false [⟨(some 15), none, (.mov (.t 0)), []⟩, ⟨(some 16), none, (.mov (.t 3)), []⟩, ⟨(some 17), none, (.iaddr (.t 15) (.t 16) 6), []⟩, ⟨(some 18), none, (.ld (.t 17) (some 6)), []⟩, ⟨(some 19), none, (.call 60 [(.t 18)]), []⟩, ⟨(some 4), none, (.mov (.t 19)), []⟩]) (.seq (.reg false [⟨(some 20), none, (.mov (.t 4)), []⟩, ⟨(some 21), none, (.bin .neq (.t 20) (.c (.int .i64 0))), []⟩]) (.cond (.t 21) (.seq (.reg false [⟨(some 22), none, (.mov (.t 4)), []⟩, ⟨(some 2), none, (.mov (.t 22)), []⟩]) .ret) .skip))) (.seq (.reg true [⟨(some 23), none, (.mov (.t 3)), []⟩, ⟨(some 24), none, (.bin .gtr (.t 23) (.c (.int .i64 0))), []⟩, ⟨(some 25), none, (.mov (.t 24)), []⟩, ⟨(some 26), (some (25, true)), (.mov (.t 0)), []⟩, ⟨(some 27), (some (25, true)), (.mov (.t 3)), []⟩, ⟨(some 28), (some (25, true)), (.bin .sub (.t 27) (.c (.int .i64 1))), []⟩, ⟨(some 29), (some (25, true)), (.iaddr (.t 26) (.t 28) 6), []⟩, ⟨(some 30), (some (25, true)), (.ld (.t 29) (some 6)), []⟩, ⟨(some 31), (some (25, true)), (.mov (.t 0)), []⟩, ⟨(some 32), (some (25, true)), (.mov (.t 3)), []⟩, ⟨(some 33), (some (25, true)), (.iaddr (.t 31) (.t 32) 6), []⟩, ⟨(some 34), (some (25, true)), (.ld (.t 33) (some 6)), []⟩, ⟨(some 35), (some (25, true)), (.call 61 [(.t 30), (.t 34)]), []⟩, ⟨(some 36), (some (25, true)), (.un .not (.t 35)), []⟩, ⟨(some 37), none, (.pick (.t 25) (.t 36) (.c (.bool false))), []⟩]) (.cond (.t 37) (.seq (.reg false [⟨(some 2), none, (.mov (.c (.int .i64 8))), []⟩]) .ret) .skip)))) (.reg false [⟨(some 13), none, (.mov (.t 3)), []⟩, ⟨(some 14), none, (.bin .add (.t 13) (.c (.int .i64 1))), []⟩, ⟨(some 3), none, (.mov (.t 14)), []⟩])))
def l30_1 : Cmd := (.seq (.seq (.reg false [⟨(some 38), none, (.mov (.t 5)), []⟩, ⟨(some 39), none, (.mov (.t 0)), []⟩, ⟨(some 40), none, (.len false (.t 39)), []⟩, ⟨(some 41), none, (.bin .lss (.t 38) (.t 40)), []⟩]) (.cond (.t 41) .skip (.exit 2))) (.seq (.block 3 (.seq (.reg false [⟨(some 44), none, (.mov (.t 0)), []⟩, ⟨(some 45), none, (.mov (.t 0)), []⟩, ⟨(some 46), none, (.mov (.t 5)), []⟩, ⟨(some 47), none, (.iaddr (.t 45) (.t 46) 6), []⟩, ⟨(some 48), none, (.faddr (.t 47) 0), []⟩, ⟨(some 49), none, (.ld (.t 48) none), []⟩, ⟨(some 50), none, (.call 62 [(.t 44), (.t 49)]), []⟩, ⟨(some 51), none, (.mov (.t 5)), []⟩, ⟨(some 52), none, (.bin .lss (.t 50) (.t 51)), []⟩]) (.cond (.t 52) (.seq (.reg false [⟨(some 2), none, (.mov (.c (.int .i64 7))), []⟩]) .ret) .skip))) (.reg false [⟨(some 42), none, (.mov (.t 5)), []⟩, ⟨(some 43), none, (.bin .add (.t 42) (.c (.int .i64 1))), []⟩, ⟨(some 5), none, (.mov (.t 43)), []⟩])))
def c30 : Cmd := (.seq (.reg false [⟨(some 2), none, (.mov (.c (.int .i64 0))), []⟩]) (.seq (.seq (.reg false [⟨(some 6), none, (.mov (.t 0)), []⟩, ⟨(some 7), none, (.len false (.t 6)), []⟩, ⟨(some 8), none, (.bin .gtr (.t 7) (.c (.int .i64 1000))), []⟩]) (.cond (.t 8) (.seq (.reg false [⟨(some 2), none, (.mov (.c (.int .i64 2))), []⟩]) .ret) .skip)) (.seq (.seq (.reg false [⟨(some 3), none, (.mov (.c (.int .i64 0))), []⟩]) (.block 0 (.loop l30_0))) (.seq (.seq (.reg false [⟨(some 5), none, (.mov (.c (.int .i64 0))), []⟩]) (.block 2 (.loop l30_1))) (.seq (.seq (.reg false [⟨(some 53), none, (.mov (.t 0)), []⟩, ⟨(some 54), none, (.call 63 [(.t 53)]), []⟩, ⟨(some 55), none, (.bin .gtr (.t 54) (.c (.int .i64 50))), []⟩]) (.cond (.t 55) (.seq (.reg false [⟨(some 2), none, (.mov (.c (.int .i64 2))), []⟩]) .ret) .skip)) (.seq (.reg false [⟨(some 2), none, (.mov (.c (.int .i64 0))), []⟩]) .ret))))))
theorem h30 : compF Tryd.prog sh 30 = some (c30, [2], 56) := by kernel_rfl
def c61 : Cmd := (.seq (.reg false [⟨(some 2), none, (.box (.t 0)), []⟩, ⟨(some 3), none, (.box (.t 1)), []⟩, ⟨(some 4), none, (.mov (.c (.bool false))), []⟩]) (.seq (.reg false [⟨(some 5), none, (.faddr (.t 2) 1), []⟩, ⟨(some 6), none, (.ld (.t 5) none), []⟩, ⟨(some 7), none, (.faddr (.t 3) 1), []⟩, ⟨(some 8), none, (.ld (.t 7) none), []⟩, ⟨(some 9), none, (.bin .lss (.t 6) (.t 8)), []⟩, ⟨(some 10), none, (.mov (.t 9)), []⟩, ⟨(some 11), (some (10, false)), (.faddr (.t 2) 1), []⟩, ⟨(some 12), (some (10, false)), (.ld (.t 11) none), []⟩, ⟨(some 13), (some (10, false)), (.faddr (.t 3) 1), []⟩, ⟨(some 14), (some (10, false)), (.ld (.t 13) none), []⟩, ⟨(some 15), (some (10, false)), (.bin .eql (.t 12) (.t 14)), []⟩, ⟨(some 16), (some (10, false)), (.mov (.t 15)), []⟩, ⟨(some 17), (some (16, true)), (.faddr (.t 2) 0), []⟩, ⟨(some 18), (some (16, true)), (.ld (.t 17) none), []⟩, ⟨(some 19), (some (16, true)), (.faddr (.t 3) 0), []⟩, ⟨(some 20), (some (16, true)), (.ld (.t 19) none), []⟩, ⟨(some 21), (some (16, true)), (.bin .lss (.t 18) (.t 20)), []⟩, ⟨(some 22), (some (10, false)), (.pick (.t 16) (.t 21) (.c (.bool false))), []⟩, ⟨(some 23), none, (.pick (.t 10) (.c (.bool true)) (.t 22)), []⟩, ⟨(some 4), none, (.mov (.t 23)), []⟩]) .ret))
theorem h61 : compF Tryd.prog sh 61 = some (c61, [4], 24) := by kernel_rfl
def l62_0 : Cmd := (.seq (.seq (.reg false [⟨(some 6), none, (.mov (.t 5)), []⟩, ⟨(some 7), none, (.mov (.t 0)), []⟩, ⟨(some 8), none, (.len false (.t 7)), []⟩, ⟨(some 9), none, (.bin .lss (.t 6) (.t 8)), []⟩]) (.cond (.t 9) .skip (.exit 0))) (.seq (.block 1 (.seq (.reg false [⟨(some 12), none, (.mov (.t 0)), []⟩, ⟨(some 13), none, (.mov (.t 5)), []⟩, ⟨(some 14), none, (.iaddr (.t 12) (.t 13) 6), []⟩, ⟨(some 15), none, (.faddr (.t 14) 0), []⟩, ⟨(some 16), none, (.ld (.t 15) none), []⟩, ⟨(some 17), none, (.mov (.t 1)), []⟩, ⟨(some 18), none, (.bin .eql (.t 16) (.t 17)), []⟩]) (.cond (.t 18) (.seq (.reg false [⟨(some 19), none, (.mov (.t 5)), []⟩, ⟨(some 4), none, (.mov (.t 19)), []⟩]) .ret) .skip))) (.reg false [⟨(some 10), none, (.mov (.t 5)), []⟩, ⟨(some 11), none, (.bin .add (.t 10) (.c (.int .i64 1))), []⟩, ⟨(some 5), none, (.mov (.t 11)), []⟩])))
def c62 : Cmd := (.seq (.reg false [⟨(some 4), none, (.mov (.c (.int .i64 0))), []⟩]) (.seq (.seq (.reg false [⟨(some 5), none, (.mov (.c (.int .i64 0))), []⟩]) (.block 0 (.loop l62_0))) (.seq (.reg false [⟨(some 4), none, (.mov (.c (.int .i64 (-1)))), []⟩]) .ret)))
theorem h62 : compF Tryd.prog sh 62 = some (c62, [4], 20) := by kernel_rfl
def l63_0 : Cmd := (.seq (.seq (.reg false [⟨(some 19), none, (.mov (.t 6)), []⟩, ⟨(some 20), none, (.mov (.t 4)), []⟩, ⟨(some 21), none, (.bin .lss (.t 19) (.t 20)), []⟩]) (.cond (.t 21) .skip (.exit 2))) (.seq (.block 3 (.reg true [⟨(some 24), none, (.mov (.t 5)), []⟩, ⟨(some 25), none, (.mov (.t 24)), []⟩, ⟨(some 26), (some (25, true)), (.mov (.t 0)), []⟩, ⟨(some 27), (some (25, true)), (.mov (.t 6)), []⟩, ⟨(some 28), (some (25, true)), (.iaddr (.t 26) (.t 27) 6), []⟩, ⟨(some 29), (some (25, true)), (.faddr (.t 28) 3), []⟩, ⟨(some 30), (some (25, true)), (.ld (.t 29) none), []⟩, ⟨(some 31), (some (25, true)), (.mov (.t 0)), []⟩, ⟨(some 32), (some (25, true)), (.mov (.t 4)), []⟩, ⟨(some 33), (some (25, true)), (.iaddr (.t 31) (.t 32) 6), []⟩, ⟨(some 34), (some (25, true)), (.faddr (.t 33) 3), []⟩, ⟨(some 35), (some (25, true)), (.ld (.t 34) none), []⟩, ⟨(some 36), (some (25, true)), (.bin .neq (.t 30) (.t 35)), []⟩, ⟨(some 37), none, (.pick (.t 25) (.t 36) (.c (.bool false))), []⟩, ⟨(some 5), none, (.mov (.t 37)), []⟩])) (.reg false [⟨(some 22), none, (.mov (.t 6)), []⟩, ⟨(some 23), none, (.bin .add (.t 22) (.c (.int .i64 1))), []⟩, ⟨(some 6), none, (.mov (.t 23)), []⟩])))
def l63_1 : Cmd := (.seq (.seq (.reg false [⟨(some 7), none, (.mov (.t 4)), []⟩, ⟨(some 8), none, (.mov (.t 0)), []⟩, ⟨(some 9), none, (.len false (.t 8)), []⟩, ⟨(some 10), none, (.bin .lss (.t 7) (.t 9)), []⟩]) (.cond (.t 10) .skip (.exit 0))) (.seq (.block 1 (.seq (.reg false [⟨(some 13), none, (.mov (.t 0)), []⟩, ⟨(some 14), none, (.mov (.t 4)), []⟩, ⟨(some 15), none, (.iaddr (.t 13) (.t 14) 6), []⟩, ⟨(some 16), none, (.faddr (.t 15) 3), []⟩, ⟨(some 17), none, (.ld (.t 16) none), []⟩, ⟨(some 18), none, (.bin .neq (.t 17) (.c (.str []))), []⟩, ⟨(some 5), none, (.mov (.t 18)), []⟩]) (.seq (.seq (.reg false [⟨(some 6), none, (.mov (.c (.int .i64 0))), []⟩]) (.block 2 (.loop l63_0))) (.seq (.reg false [⟨(some 38), none, (.mov (.t 5)), []⟩]) (.cond (.t 38) (.reg false [⟨(some 39), none, (.mov (.t 3)), []⟩, ⟨(some 40), none, (.bin .add (.t 39) (.c (.int .i64 1))), []⟩, ⟨(some 3), none, (.mov (.t 40)), []⟩]) .skip))))) (.reg false [⟨(some 11), none, (.mov (.t 4)), []⟩, ⟨(some 12), none, (.bin .add (.t 11) (.c (.int .i64 1))), []⟩, ⟨(some 4), none, (.mov (.t 12)), []⟩])))
def c63 : Cmd := (.seq (.reg false [⟨(some 2), none, (.mov (.c (.int .i64 0))), []⟩]) (.seq (.reg false [⟨(some 3), none, (.mov (.c (.int .i64 0))), []⟩]) (.seq (.seq (.reg false [⟨(some 4), none, (.mov (.c (.int .i64 0))), []⟩]) (.block 0 (.loop l63_1))) (.seq (.reg false [⟨(some 41), none, (.mov (.t 3)), []⟩, ⟨(some 2), none, (.mov (.t 41)), []⟩]) .ret))))
theorem h63 : compF Tryd.prog sh 63 = some (c63, [2], 42) := by kernel_rfl
def k12_0 : Cmd := (.block 1 (.seq (.reg false [⟨(some 15), none, (.mov (.t 13)), []⟩, ⟨(some 5), none, (.mov (.t 15)), []⟩]) (.seq (.reg true [⟨(some 16), none, (.mov (.t 0)), []⟩, ⟨(some 17), none, (.mov (.t 5)), []⟩, ⟨(some 18), none, (.iaddr (.t 16) (.t 17) 6), []⟩, ⟨(some 19), none, (.ld (.t 18) (some 6)), []⟩, ⟨(some 20), none, (.mov (.t 1)), []⟩, ⟨(some 21), none, (.mov (.t 5)), []⟩, ⟨(some 22), none, (.iaddr (.t 20) (.t 21) 6), []⟩, ⟨(some 23), none, (.ld (.t 22) (some 6)), []⟩, ⟨(some 24), none, (.seq true [0, 0, 2, 2, 2, 1] (.t 19) (.t 23)), []⟩]) (.cond (.t 24) (.seq (.reg false [⟨(some 4), none, (.mov (.c (.bool false))), []⟩]) .ret) .skip))))
abbrev l12_0 : Cmd := cnt 0 14 13 12 25 k12_0
def c12 : Cmd := (.seq (.reg false [⟨(some 4), none, (.mov (.c (.bool false))), []⟩]) (.seq (.seq (.reg false [⟨(some 6), none, (.mov (.t 0)), []⟩, ⟨(some 7), none, (.len false (.t 6)), []⟩, ⟨(some 8), none, (.mov (.t 1)), []⟩, ⟨(some 9), none, (.len false (.t 8)), []⟩, ⟨(some 10), none, (.bin .neq (.t 7) (.t 9)), []⟩]) (.cond (.t 10) (.seq (.reg false [⟨(some 4), none, (.mov (.c (.bool false))), []⟩]) .ret) .skip)) (.seq (.seq (.reg false [⟨(some 11), none, (.mov (.t 0)), []⟩, ⟨(some 12), none, (.len false (.t 11)), []⟩, ⟨(some 13), none, (.mov (.c (.int .i64 0))), []⟩]) (.block 0 (.loop l12_0))) (.seq (.reg false [⟨(some 4), none, (.mov (.c (.bool true))), []⟩]) .ret))))
theorem h12 : compF Tryd.prog sh 12 = some (c12, [4], 26) := by kernel_rfl
end Go.Proofs.P4
end
section
set_option linter.unusedVariables false
set_option linter.unusedSimpArgs false
set_option maxRecDepth 10000
set_option maxHeartbeats 8000000
namespace Go.Proofs.P4
open Go.Ex
section
variable {h : Hp} {k : Nat} {kk : IntKind} {K : V → List Nat → Prop} {l : List Entry} {a : Entry}
theorem ent_ia (e : l[k]? = some a) : iaddrK h (.ro l.length (fl entCd l)) (.int kk k) 6 K ⟨⟩ = K (.rp (fl entCd l) (k * 6)) [] := iaddr_fl rfl (by decide) e
theorem ent_ld (e : l[k]? = some a) : ldA h (.rp (fl entCd l) (k * 6)) (some 6) = some (.agg (entV a)) := ld_fls (n := 6) rfl e
theorem ent_l0 (e : l[k]? = some a) : ldA h (.rp (fl entCd l) (k * 6)) none = some (.int .i64 a.1) := ld_fl0 (n := 6) rfl (by decide) e
theorem ent_l1 (e : l[k]? = some a) : ldA h (.rp (fl entCd l) (k * 6 + 1)) none = some (.int .i64 a.2.1) := ld_fl (n := 6) rfl (by decide) e
theorem ent_l3 (e : l[k]? = some a) : ldA h (.rp (fl entCd l) (k * 6 + 3)) none = some (.str a.2.2.2.1) := ld_fl (n := 6) rfl (by decide) e
end
def cmpI (x y : Int) : Int := if x < y then -1 else if y < x then 1 else 0
theorem isNaN_ok (x : Int) : OkF Tryd.prog 97 [.int .i64 x] (.bool false, []) := by
  refine OkF.W0 hm h97 (of_decide_eq_true rfl) ?_
  unfold c97
  simp -dsimp
theorem compare_ok (x y : Int) : OkF Tryd.prog 82 [.int .i64 x, .int .i64 y] (.int .i64 (cmpI x y), []) := by
  refine OkF.W0 hm h82 (of_decide_eq_true rfl) ?_
  unfold c82
  simp -dsimp
  refine call_bool (isNaN_ok x) ?_
  simp -dsimp
  refine call_bool (isNaN_ok y) ?_
  simp -dsimp
  refine condK_of ?_ ?_ <;> intro q <;> simp -dsimp [q]
  · simp at q; simp [cmpI, q]
  · refine condK_of ?_ ?_ <;> intro q2 <;> simp -dsimp [q2]
    · simp at q q2; simp [cmpI, q2]; omega
    · simp at q q2; simp [cmpI]; omega
def orE (l : List Int) (k : Nat) : Int := (l[k]?).getD 0
theorem or_ok (l : List Int) (hl : l.length < 2 ^ 62) : OkF Tryd.prog 81 [.ro l.length (fl (Cd.int .i64) l)] (.int .i64 (fe (orE l) l.length), []) := by
  refine OkF.W0 hm h81 (of_decide_eq_true rfl) ?_
  unfold c81
  simp -dsimp
  refine for_lt l.length (fun k t => t.t 6 = .ro l.length (fl (Cd.int .i64) l) ∧ t.t 3 = .int .i64 0 ∧ fe (orE l) k = 0) rfl hl (by simp -dsimp [fe]) (by simp -dsimp) (by simp -dsimp) (fun k t hk hI hi hn => ?_) (fun t hI hi hn => ?_)
  · obtain ⟨i5, i3, iu⟩ := hI
    have hg : l[k]? = some l[k] := List.getElem?_eq_getElem hk
    generalize l[k] = a at hg
    have hE : orE l k = a := by simp [orE, hg]
    have e1 : ∀ K, iaddrK t.h (.ro l.length (fl (Cd.int .i64) l)) (.int .i64 k) 1 K ⟨⟩ = K (.rp (fl (Cd.int .i64) l) k) [] := fun K => by
      have := iaddr_fl (d := Cd.int .i64) (n := 1) (kk := .i64) (h := t.h) (K := K) rfl (by decide) hg
      rwa [Nat.mul_one] at this
    have e2 : ∀ h, ldA h (.rp (fl (Cd.int .i64) l) k) none = some (.int .i64 a) := fun h => by
      have := ld_fl0 (d := Cd.int .i64) (n := 1) (h := h) rfl (by decide) hg
      rw [Nat.mul_one] at this
      exact this
    unfold k81_0
    simp -dsimp [i5, i3, hi, hn, e1, e2]
    refine condK_of ?_ ?_ <;> intro q <;> simp -dsimp [q, i5, i3, hi, hn]
    · rw [fe_stop iu (by rw [hE]; simpa using q) hk, hE]
    · exact fe_step iu (by rw [hE]; simpa using q)
  · obtain ⟨i5, i3, iu⟩ := hI
    simp -dsimp [i3, iu]
/-- The order of entries. -/
def byT (a b : Entry) : Int := if cmpI a.2.1 b.2.1 ≠ 0 then cmpI a.2.1 b.2.1 else cmpI a.1 b.1
def befE (a b : Entry) : Bool := decide (a.2.1 < b.2.1) || decide (a.2.1 = b.2.1) && decide (a.1 < b.1)
theorem byT_bef (a b : Entry) : decide (0 ≤ byT a b) = !befE a b := by
  unfold byT befE cmpI
  rw [Bool.eq_iff_iff]
  simp
  repeat' split
  all_goals first
    | (simp; omega)
    | omega
theorem byTime_ok (a b : Entry) : OkF Tryd.prog 52 [.agg (entV a), .agg (entV b)] (.int .i64 (byT a b), []) := by
  have hor := or_ok [cmpI a.2.1 b.2.1, cmpI a.1 b.1] (by simp)
  have hfe : fe (orE [cmpI a.2.1 b.2.1, cmpI a.1 b.1]) 2 = byT a b := by
    simp [fe, byT, orE]
  have hfe' : fe (orE [cmpI a.2.1 b.2.1, cmpI a.1 b.1]) [cmpI a.2.1 b.2.1, cmpI a.1 b.1].length = byT a b := hfe
  rw [hfe'] at hor
  have e5 : ∀ (h : Hp) (x y : Int), toRO (upd h 2 (some ⟨0, 1, [.int .i64 x, .int .i64 y], none⟩)) 8 (.sl 2 0 0 2 (some 2)) = some (.ro 2 [.int .i64 x, .int .i64 y]) := fun _ _ _ => rfl
  refine OkF.W0 hm h52 (of_decide_eq_true rfl) ?_
  unfold c52
  simp -dsimp [entV]
  refine call_int (compare_ok _ _) ?_
  simp -dsimp
  refine call_int (compare_ok _ _) ?_
  simp -dsimp [fillA, e5]
  refine call_int hor ?_
  simp -dsimp
theorem before_ok (a b : Entry) : OkF Tryd.prog 61 [.agg (entV a), .agg (entV b)] (.bool (befE a b), []) := by
  refine OkF.W0 hm h61 (of_decide_eq_true rfl) ?_
  unfold c61
  simp -dsimp [entV]
  repeat' (first
    | (refine condK_of ?_ ?_ <;> intro q <;> simp -dsimp [q])
    | (refine wantT_of ?_ ?_ <;> intro q <;> simp -dsimp [q])
    | (refine wantF_of ?_ ?_ <;> intro q <;> simp -dsimp [q]))
  all_goals simp_all [befE]
theorem find_ok (l : List Entry) (id : Int) (hl : l.length < 2 ^ 62) : OkF Tryd.prog 62 [.ro l.length (fl entCd l), .int .i64 id] (.int .i64 (ixI (fun x => decide (x.1 = id)) l), []) := by
  refine OkF.W0 hm h62 (of_decide_eq_true rfl) ?_
  have e62 := Go.Ex.e62
  unfold c62
  simp -dsimp
  refine loop_to 5 l.length (fun k t => t.t 5 = .int .i64 k ∧ t.t 0 = .ro l.length (fl entCd l) ∧ t.t 1 = .int .i64 id ∧ Not' (fun x => decide (x.1 = id)) l k) (fun k t h => h.1) (by simp -dsimp [Not'.zero]) (fun k t hk hI => ?_)
  obtain ⟨i5, i0, i1, iu⟩ := hI
  by_cases hlt : k < l.length
  · have hlt' : (k : Int) < (l.length : Int) := by omega
    have hw : IntKind.i64.wrap ((k : Int) + 1) = (k : Int) + 1 := IntWalk.i64_in _ (by omega)
    have hg : l[k]? = some l[k] := List.getElem?_eq_getElem hlt
    generalize l[k] = x at hg
    unfold l62_0
    simp -dsimp [i5, i1, i0, hlt', ent_ia hg, ent_l0 hg]
    refine condK_of ?_ ?_ <;> intro q <;> simp -dsimp [q, i5, i1, i0, hw]
    · rw [ixI_stop iu hg q]
    · exact ⟨by omega, iu.succ hg q⟩
  · have hkl : k = l.length := by omega
    subst hkl
    unfold l62_0
    simp -dsimp [i5, i0, ixI_none iu]
/-- Its group hasn't stood among the first j. -/
def fstB (l : List Entry) (x : Entry) (j : Nat) : Bool := !decide (x.2.2.2.1 = []) && (l.take j).all fun y => !decide (y.2.2.2.1 = x.2.2.2.1)
theorem fstB_zero (l : List Entry) (x : Entry) : fstB l x 0 = !decide (x.2.2.2.1 = []) := by simp [fstB]
theorem fstB_succ {l : List Entry} {x y : Entry} {j : Nat} (hg : l[j]? = some y) : fstB l x (j + 1) = (fstB l x j && !decide (y.2.2.2.1 = x.2.2.2.1)) := by
  have hj := (List.getElem?_eq_some_iff.1 hg).1
  have ht : l.take (j + 1) = l.take j ++ [y] := by
    rw [List.take_succ_eq_append_getElem hj]
    congr 2
    exact (List.getElem?_eq_some_iff.1 hg).2
  unfold fstB
  rw [ht, List.all_append]
  simp [Bool.and_assoc]
def firstAt (l : List Entry) (k : Nat) : Bool := match l[k]? with
  | some x => fstB l x k
  | none => false
def grpN (l : List Entry) : Nat → Nat
  | 0 => 0
  | k + 1 => grpN l k + if firstAt l k = true then 1 else 0
theorem grpN_le (l : List Entry) : ∀ k, grpN l k ≤ k
  | 0 => Nat.le_refl _
  | k + 1 => by have := grpN_le l k; unfold grpN; split <;> omega
theorem groups_ok (l : List Entry) (hl : l.length < 2 ^ 62) : OkF Tryd.prog 63 [.ro l.length (fl entCd l)] (.int .i64 (grpN l l.length), []) := by
  refine OkF.W0 hm h63 (of_decide_eq_true rfl) ?_
  have e62 := Go.Ex.e62
  unfold c63
  simp -dsimp
  refine loop_to 4 l.length (fun k t => t.t 4 = .int .i64 k ∧ t.t 0 = .ro l.length (fl entCd l) ∧ t.t 3 = .int .i64 (grpN l k)) (fun k t h => h.1) (by simp -dsimp [grpN]) (fun k t hk hI => ?_)
  obtain ⟨i4, i0, i3⟩ := hI
  by_cases hlt : k < l.length
  · have hlt' : (k : Int) < (l.length : Int) := by omega
    have hw : IntKind.i64.wrap ((k : Int) + 1) = (k : Int) + 1 := IntWalk.i64_in _ (by omega)
    have hle := grpN_le l k
    have hw3 : IntKind.i64.wrap ((grpN l k : Int) + 1) = (grpN l k : Int) + 1 := IntWalk.i64_in _ (by omega)
    have hg : l[k]? = some l[k] := List.getElem?_eq_getElem hlt
    generalize l[k] = x at hg
    have hN : grpN l (k + 1) = grpN l k + if fstB l x k = true then 1 else 0 := by simp [grpN, firstAt, hg]
    unfold l63_1
    simp -dsimp [i4, i0, i3, hlt', ent_ia hg, ent_l3 hg]
    refine loop_to 6 k (fun j s => s.t 6 = .int .i64 j ∧ s.t 4 = .int .i64 k ∧ s.t 0 = .ro l.length (fl entCd l) ∧ s.t 3 = .int .i64 (grpN l k) ∧ s.t 5 = .bool (fstB l x j)) (fun j s h => h.1) (by simp -dsimp [i4, i0, i3, fstB_zero]) (fun j s hj hJ => ?_)
    obtain ⟨j6, j4, j0, j3, j5⟩ := hJ
    by_cases hjk : j < k
    · have hjk' : (j : Int) < (k : Int) := by omega
      have hwj : IntKind.i64.wrap ((j : Int) + 1) = (j : Int) + 1 := IntWalk.i64_in _ (by omega)
      have hgj : l[j]? = some l[j] := List.getElem?_eq_getElem (by omega)
      generalize l[j] = y at hgj
      have hS := fstB_succ (x := x) hgj
      unfold l63_0
      cases b : fstB l x j with
      | true =>
        rw [b] at j5 hS
        simp -dsimp [j6, j4, j0, j3, j5, hjk', hwj, ent_ia hgj, ent_l3 hgj, ent_ia hg, ent_l3 hg, hS]
        exact hjk
      | false =>
        rw [b] at j5 hS
        simp -dsimp [j6, j4, j0, j3, j5, hjk', hwj, hS]
        exact hjk
    · have hkj : j = k := by omega
      subst hkj
      unfold l63_0
      simp -dsimp [j6, j4, j0, j3, j5]
      cases b : fstB l x j with
      | true =>
        rw [b] at hN
        simp -dsimp [j4, j0, j3, j6, hw, hw3, hN]
        omega
      | false =>
        rw [b] at hN
        simp -dsimp [j4, j0, j3, j6, hw, hN]
        omega
  · have hkl : k = l.length := by omega
    subst hkl
    unfold l63_1
    simp -dsimp [i4, i0, i3]
def sV (s : List UInt8) : V := .str s
def bV (b : Bool) : V := .bool b
theorem keyS : KeyOk sV none := keyStr
/-- The groups that stand among the first k, in a map. -/
def MG (l : List Entry) (k : Nat) (t : St) : Prop := ∃ m : List (List UInt8 × Bool), t.t 3 = .mp 0 0 ∧ t.t 7 = .ro l.length (fl entCd l) ∧ 0 < t.nx ∧ t.h 0 = some ⟨0, 0, [], some (kvs sV bV m)⟩ ∧ m.length = grpN l k ∧ ∀ g, g ∈ m.map (·.1) ↔ (g ≠ [] ∧ ∃ y ∈ l.take k, y.2.2.2.1 = g)
theorem putM_len {α β : Type} [DecidableEq α] {a : α} {b : β} {l : List (α × β)} : (putM a b l).length = l.length + if a ∈ l.map (·.1) then 0 else 1 := by
  have h := congrArg List.length (putM_keys (a := a) (b := b) (l := l))
  rw [List.length_map] at h
  rw [h]
  split <;> simp
theorem mem_putM {α β : Type} [DecidableEq α] {a c : α} {b : β} {l : List (α × β)} : c ∈ (putM a b l).map (·.1) ↔ (c ∈ l.map (·.1) ∨ c = a) := by
  rw [putM_keys]
  split
  · rename_i q
    exact ⟨.inl, fun h => by rcases h with h | rfl <;> assumption⟩
  · rw [List.mem_append, List.mem_singleton]
theorem manyGroups_ok (l : List Entry) (hl : l.length < 2 ^ 62) : OkF Tryd.prog 53 [.ro l.length (fl entCd l)] (.bool (decide (50 < grpN l l.length)), []) := by
  refine OkF.W0 hm h53 (of_decide_eq_true rfl) ?_
  have e62 := Go.Ex.e62
  unfold c53
  simp -dsimp
  refine for_lt l.length (MG l) rfl hl ?_ (by simp -dsimp) (by simp -dsimp) (fun k t hk hI hi hn => ?_) (fun t hI hi hn => ?_)
  · exact ⟨[], by simp -dsimp, by simp -dsimp, by simp -dsimp, by simp -dsimp [kvs], rfl, by simp⟩
  · obtain ⟨m, i3, i7, inx, ih, im, ig⟩ := hI
    have hg : l[k]? = some l[k] := List.getElem?_eq_getElem hk
    have htk : l.take (k + 1) = l.take k ++ [l[k]] := List.take_succ_eq_append_getElem hk
    generalize l[k] = x at hg htk
    have hN : grpN l (k + 1) = grpN l k + if fstB l x k = true then 1 else 0 := by simp [grpN, firstAt, hg]
    have n0 : ¬ 0 = t.nx := by omega
    have sl : (entV x).length = 6 := rfl
    unfold k53_0
    simp -dsimp [i3, i7, hi, hn, ent_ia hg, ent_ld hg, n0, entV]
    generalize hh : upd (upd t.h t.nx _) t.nx _ = h1
    have hx1 : h1 t.nx = some ⟨0, 0, entV x, none⟩ := by rw [← hh]; simp [entV]
    have h10 : h1 0 = t.h 0 := by rw [← hh]; simp [n0]
    rw [ih] at h10
    simp only [entV] at hx1
    have step : ∀ m' : List (List UInt8 × Bool), m'.length = grpN l (k + 1) → (∀ g, g ∈ m'.map (·.1) ↔ (g ≠ [] ∧ ∃ y ∈ l.take (k + 1), y.2.2.2.1 = g)) → ∀ t' : St, t'.t 3 = .mp 0 0 → t'.t 7 = .ro l.length (fl entCd l) → 0 < t'.nx → t'.h 0 = some ⟨0, 0, [], some (kvs sV bV m')⟩ → MG l (k + 1) t' := fun m' a1 a2 t' a3 a4 a5 a6 => ⟨m', a3, a4, a5, a6, a1, a2⟩
    by_cases q : x.2.2.2.1 = []
    · have hf : fstB l x k = false := by simp [fstB, q]
      rw [hf] at hN
      have := step m (by rw [im, hN]; simp) (fun g => by
        rw [ig, htk]
        constructor
        · rintro ⟨h1, y, h2, h3⟩; exact ⟨h1, y, List.mem_append_left _ h2, h3⟩
        · rintro ⟨h1, y, h2, h3⟩
          rw [List.mem_append, List.mem_singleton] at h2
          rcases h2 with h2 | rfl
          · exact ⟨h1, y, h2, h3⟩
          · exact absurd (h3.symm.trans q) h1)
      simp -dsimp [q, i3, i7, hi, hn]
      exact this _ (by simp -dsimp [i3]) (by simp -dsimp [i7]) (by simp -dsimp) (by simp -dsimp [h10])
    · have hput := mset_ok (K := fun _ _ _ _ _ => True) (h := h1) (nx := 0) keyS h10 x.2.2.2.1 true
      have hmem : x.2.2.2.1 ∈ m.map (·.1) ↔ fstB l x k = false := by
        rw [ig]
        unfold fstB
        rw [show (!decide (x.2.2.2.1 = [])) = true by simp [q], Bool.true_and]
        rw [List.all_eq_false]
        simp [q]
      have hlen : (putM x.2.2.2.1 true m).length = grpN l (k + 1) := by
        rw [putM_len, im, hN]
        by_cases f : fstB l x k = true
        · rw [if_pos f, if_neg (by rw [hmem, f]; simp)]
        · rw [if_neg f, if_pos (by rw [hmem]; simpa using f)]
      have := step _ hlen (fun g => by
        rw [mem_putM, ig, htk]
        constructor
        · rintro (⟨h1, y, h2, h3⟩ | rfl)
          · exact ⟨h1, y, List.mem_append_left _ h2, h3⟩
          · exact ⟨q, x, by simp, rfl⟩
        · rintro ⟨h1, y, h2, h3⟩
          rw [List.mem_append, List.mem_singleton] at h2
          rcases h2 with h2 | rfl
          · exact .inl ⟨h1, y, h2, h3⟩
          · exact .inr h3.symm)
      simp -dsimp [q, i3, i7, hi, hn, hx1]
      have hms : ∀ (nx : Nat) K, msetK none (.mp 0 0) (.str x.2.2.2.1) (.bool true) h1 nx K ⟨⟩ = K (.tup []) (upd h1 0 (some ⟨0, 0, [], some (kvs sV bV (putM x.2.2.2.1 true m))⟩)) nx (some [0]) (some [0]) := fun nx K => mset_ok (vv := bV) keyS h10 x.2.2.2.1 true
      rw [hms]
      simp -dsimp [i3, i7, hi, hn]
      exact this _ (by simp -dsimp [i3]) (by simp -dsimp [i7]) (by simp -dsimp) (by simp -dsimp)
  · obtain ⟨m, i3, i7, inx, ih, im, ig⟩ := hI
    simp -dsimp [i3]
    rw [mlen_ok ih]
    simp -dsimp [im]
    omega
end Go.Proofs.P4
end
section
set_option linter.unusedVariables false
set_option linter.unusedSimpArgs false
set_option maxRecDepth 10000
set_option maxHeartbeats 8000000
namespace Go.Proofs.P4
open Go.Ex
def entsE1 (l : List Entry) (k : Nat) : Int := match l[k]? with
  | none => 0
  | some x => if entE x ≠ 0 then entE x else if before l (fun y => !befE y x) k then 8 else 0
/-- Its Id stood before. -/
def dupAt (l : List Entry) (k : Nat) : Bool := match l[k]? with
  | some x => (l.take k).any fun y => decide (y.1 = x.1)
  | none => false
def idN (l : List Entry) : Nat → Nat
  | 0 => 0
  | k + 1 => idN l k + if dupAt l k = true then 0 else 1
def dup7 (l : List Entry) (k : Nat) : Int := if dupAt l k = true then 7 else 0
theorem idN_lt (l : List Entry) : ∀ k, idN l k ≤ k ∧ (idN l k < k ↔ fe (dup7 l) k = 7) ∧ (fe (dup7 l) k = 0 ∨ fe (dup7 l) k = 7)
  | 0 => by simp [idN, fe]
  | k + 1 => by
    obtain ⟨h1, h2, h3⟩ := idN_lt l k
    have e1 : idN l (k + 1) = idN l k + if dupAt l k = true then 0 else 1 := rfl
    have e2 : fe (dup7 l) (k + 1) = if fe (dup7 l) k = 0 then dup7 l k else fe (dup7 l) k := rfl
    rw [e1, e2]
    have hne : ¬ fe (dup7 l) k = 0 → (if fe (dup7 l) k = 0 then dup7 l k else fe (dup7 l) k) = fe (dup7 l) k := fun h => if_neg h
    rcases h3 with h3 | h3
    · have hk : ¬ idN l k < k := by rw [h2, h3]; decide
      rw [if_pos h3]
      unfold dup7
      by_cases d : dupAt l k = true
      · simp only [if_pos d]
        exact ⟨by omega, ⟨fun _ => trivial, fun _ => by omega⟩, .inr trivial⟩
      · simp only [if_neg d]
        exact ⟨by omega, ⟨fun _ => by omega, fun h => by simp at h⟩, .inl trivial⟩
    · have hk := h2.2 h3
      rw [hne (by rw [h3]; decide)]
      by_cases d : dupAt l k = true
      · rw [if_pos d]; exact ⟨by omega, ⟨fun _ => h3, fun _ => by omega⟩, .inr h3⟩
      · rw [if_neg d]; exact ⟨by omega, ⟨fun _ => h3, fun _ => by omega⟩, .inr h3⟩
def entsE (l : List Entry) : Int := if 1000 < l.length then 2 else if fe (entsE1 l) l.length ≠ 0 then fe (entsE1 l) l.length else if fe (dup7 l) l.length ≠ 0 then 7 else if 50 < grpN l l.length then 2 else 0
def iV (n : Int) : V := .int .i64 n
theorem keyI : KeyOk iV (some .i64) := keyInt .i64
def ME (l : List Entry) (k : Nat) (t : St) : Prop := ∃ m : List (Int × Bool), t.t 3 = .mp 0 0 ∧ t.t 0 = .ro l.length (fl entCd l) ∧ t.t 11 = .ro l.length (fl entCd l) ∧ 0 < t.nx ∧ t.h 0 = some ⟨0, 0, [], some (kvs iV bV m)⟩ ∧ m.length = idN l k ∧ (∀ g, g ∈ m.map (·.1) ↔ ∃ y ∈ l.take k, y.1 = g) ∧ fe (entsE1 l) k = 0
theorem CheckEntries_ok (l : List Entry) (hok : ∀ x ∈ l, entOk x) : OkF Tryd.prog 24 [.ro l.length (fl entCd l)] (.int .i64 (entsE l), []) := by
  refine OkF.W0 hm h24 (of_decide_eq_true rfl) ?_
  have e62 := Go.Ex.e62
  unfold c24
  by_cases h1 : 1000 < l.length
  · have h1' : (1000 < (l.length : Int)) := by omega
    simp -dsimp [h1', entsE, h1]
  have h1' : ¬ (1000 < (l.length : Int)) := by omega
  simp -dsimp [h1']
  have bad : ∀ k v, k < l.length → fe (entsE1 l) k = 0 → entsE1 l k = v → v ≠ 0 → entsE l = v := fun k v hk h0 h2 h3 => by
    have e := fe_stop h0 (by rw [h2]; exact h3) hk
    unfold entsE
    rw [if_neg h1, if_pos (by rw [e, h2]; exact h3), e, h2]
  refine for_lt l.length (ME l) rfl (by omega) ?_ (by simp -dsimp) (by simp -dsimp) (fun k t hk hI hi hn => ?_) (fun t hI hi hn => ?_)
  · exact ⟨[], by simp -dsimp, by simp -dsimp, by simp -dsimp, by simp -dsimp, by simp -dsimp [kvs], rfl, by simp, rfl⟩
  · obtain ⟨m, i3, i0, i11, inx, ih, im, ig, iu⟩ := hI
    have hg : l[k]? = some l[k] := List.getElem?_eq_getElem hk
    have htk : l.take (k + 1) = l.take k ++ [l[k]] := List.take_succ_eq_append_getElem hk
    have hxo := hok l[k] (List.getElem_mem hk)
    generalize l[k] = x at hg htk hxo
    have hN : idN l (k + 1) = idN l k + if ((l.take k).any fun y => decide (y.1 = x.1)) = true then 0 else 1 := by
      show idN l k + (if dupAt l k = true then 0 else 1) = _
      unfold dupAt
      rw [hg]
    have n0 : ¬ 0 = t.nx := by omega
    have n0' : ¬ t.nx = 0 := by omega
    have sl : (entV x).length = 6 := rfl
    obtain ⟨z, hz⟩ := prev_get hg
    have hwk : 0 < k → IntKind.i64.wrap ((k : Int) - 1) = ((k - 1 : Nat) : Int) := fun h => wrap_pred h (by omega)
    have hbp : ∀ p, 0 < k → before l p k = p z := fun p h => before_pos h (hz h)
    unfold k24_0
    simp -dsimp [i3, i0, i11, hi, hn, ent_ia hg, ent_ld hg, n0, entV]
    generalize hh : upd (upd t.h t.nx _) t.nx _ = h1
    have hx1 : h1 t.nx = some ⟨0, 0, entV x, none⟩ := by rw [← hh]; simp [entV]
    have h10 : h1 0 = t.h 0 := by rw [← hh]; simp [n0]
    rw [ih] at h10
    simp only [entV] at hx1
    refine call_int (checkEntry_ok x hxo) ?_
    simp -dsimp
    refine condK_of ?_ ?_ <;> intro q <;> simp -dsimp [q, i3, i0, i11, hi, hn, hx1]
    · have q' : entE x ≠ 0 := by simpa using q
      rw [bad k (entE x) hk iu (by unfold entsE1; rw [hg]; simp [q']) q']
    have q' : entE x = 0 := by simpa using q
    have hms : ∀ (nx : Nat) K, msetK (some .i64) (.mp 0 0) (.int .i64 x.1) (.bool true) h1 nx K ⟨⟩ = K (.tup []) (upd h1 0 (some ⟨0, 0, [], some (kvs iV bV (putM x.1 true m))⟩)) nx (some [0]) (some [0]) := fun nx K => mset_ok (vv := bV) keyI h10 x.1 true
    have hmem : x.1 ∈ m.map (·.1) ↔ ((l.take k).any fun y => decide (y.1 = x.1)) = true := by
      rw [ig, List.any_eq_true]
      simp
    have hlen : (putM x.1 true m).length = idN l (k + 1) := by
      rw [putM_len, im, hN]
      congr 1
      by_cases f : ((l.take k).any fun y => decide (y.1 = x.1)) = true
      · rw [if_pos f, if_pos (hmem.2 f)]
      · rw [if_neg f, if_neg (fun z => f (hmem.1 z))]
    have step : fe (entsE1 l) (k + 1) = 0 → ∀ t' : St, t'.t 3 = .mp 0 0 → t'.t 0 = .ro l.length (fl entCd l) → t'.t 11 = .ro l.length (fl entCd l) → 0 < t'.nx → t'.h 0 = some ⟨0, 0, [], some (kvs iV bV (putM x.1 true m))⟩ → ME l (k + 1) t' := fun a0 t' a1 a2 a3 a4 a5 => by
      refine ⟨_, a1, a2, a3, a4, a5, hlen, fun g => ?_, a0⟩
      rw [mem_putM, ig, htk]
      constructor
      · rintro (⟨y, h2, h3⟩ | rfl)
        · exact ⟨y, List.mem_append_left _ h2, h3⟩
        · exact ⟨x, by simp, rfl⟩
      · rintro ⟨y, h2, h3⟩
        rw [List.mem_append, List.mem_singleton] at h2
        rcases h2 with h2 | rfl
        · exact .inl ⟨y, h2, h3⟩
        · exact .inr h3.symm
    refine wantT_of ?_ ?_ <;> intro a4 <;> simp -dsimp [a4, hx1, i0, hi]
    · have hp : 0 < k := by simpa using a4
      simp -dsimp [hwk hp, ent_ia (hz hp), ent_ld (hz hp), hx1]
      refine call_int (byTime_ok z x) ?_
      have hbb := byT_bef z x
      cases hb : befE z x with
      | false =>
        rw [hb] at hbb
        simp -dsimp [hbb]
        rw [bad k 8 hk iu (by unfold entsE1; rw [hg]; simp [q', hbp _ hp, hb]) (by decide)]
      | true =>
        rw [hb] at hbb
        simp -dsimp [hbb, i3, hx1, hms, hi, hn]
        exact step (fe_step iu (by unfold entsE1; rw [hg]; simp [q', hbp _ hp, hb])) _ (by simp -dsimp [i3]) (by simp -dsimp [i0]) (by simp -dsimp [i11]) (by simp -dsimp) (by simp -dsimp)
    · have hp : ¬ 0 < k := by simpa using a4
      simp -dsimp [i3, hx1, hms, hi, hn]
      exact step (fe_step iu (by unfold entsE1; rw [hg]; simp [q', before_zero hp])) _ (by simp -dsimp [i3]) (by simp -dsimp [i0]) (by simp -dsimp [i11]) (by simp -dsimp) (by simp -dsimp)
  · obtain ⟨m, i3, i0, i11, inx, ih, im, ig, iu⟩ := hI
    have hE : entsE l = if fe (dup7 l) l.length ≠ 0 then 7 else if 50 < grpN l l.length then 2 else 0 := by
      unfold entsE
      rw [if_neg h1, if_neg (by rw [iu]; simp)]
    obtain ⟨g1, g2, g3⟩ := idN_lt l l.length
    simp -dsimp [i3]
    rw [mlen_ok ih]
    simp -dsimp [im, i0]
    by_cases d : idN l l.length < l.length
    · have d' : (idN l l.length : Int) < (l.length : Int) := by omega
      simp -dsimp [d, d']
      rw [hE, if_pos (by rw [g2.1 d]; decide)]
    · have d' : ¬ (idN l l.length : Int) < (l.length : Int) := by omega
      simp -dsimp [d, d', i0]
      have h0 : fe (dup7 l) l.length = 0 := by
        rcases g3 with g | g
        · exact g
        · exact absurd (g2.2 g) d
      rw [if_neg (by rw [h0]; simp)] at hE
      refine call_bool (manyGroups_ok l (by omega)) ?_
      simp -dsimp
      refine condK_of ?_ ?_ <;> intro q <;> simp -dsimp [q]
      · rw [hE, if_pos (by simpa using q)]
      · rw [hE, if_neg (by simpa using q)]
theorem find_dup {l : List Entry} {k : Nat} {x : Entry} (hg : l[k]? = some x) : decide (ixI (fun y => decide (y.1 = x.1)) l < (k : Int)) = dupAt l k := by
  have hk := (List.getElem?_eq_some_iff.1 hg).1
  have hd : dupAt l k = (l.take k).any fun y => decide (y.1 = x.1) := by unfold dupAt; rw [hg]
  rw [hd]
  rcases ixI_cases (fun y => decide (y.1 = x.1)) l with ⟨h1, h2⟩ | ⟨j, a, h1, h2, h3, h4⟩
  · have := h2 x (List.mem_of_getElem? hg)
    simp at this
  · rw [h1]
    rw [Bool.eq_iff_iff]
    simp only [decide_eq_true_eq, List.any_eq_true]
    constructor
    · intro hlt
      have hjk : j < k := by omega
      refine ⟨a, ?_, by simpa using h3⟩
      rw [List.mem_take_iff_getElem]
      exact ⟨j, by omega, (List.getElem?_eq_some_iff.1 h2).2⟩
    · rintro ⟨y, hy, he⟩
      rw [List.mem_take_iff_getElem] at hy
      obtain ⟨i, hi, rfl⟩ := hy
      have : ¬ i < j := fun q => by
        have := h4 i _ q (List.getElem?_eq_getElem (by omega))
        simp only at this
        rw [he] at this
        simp at this
      omega
theorem CheckEntriesRef_ok (l : List Entry) (hok : ∀ x ∈ l, entOk x) : OkF Tryd.prog 30 [.ro l.length (fl entCd l)] (.int .i64 (entsE l), []) := by
  refine OkF.W0 hm h30 (of_decide_eq_true rfl) ?_
  have e62 := Go.Ex.e62
  unfold c30
  by_cases h1 : 1000 < l.length
  · have h1' : (1000 < (l.length : Int)) := by omega
    simp -dsimp [h1', entsE, h1]
  have h1' : ¬ (1000 < (l.length : Int)) := by omega
  simp -dsimp [h1']
  have bad : ∀ k v, k < l.length → fe (entsE1 l) k = 0 → entsE1 l k = v → v ≠ 0 → entsE l = v := fun k v hk h0 h2 h3 => by
    have e := fe_stop h0 (by rw [h2]; exact h3) hk
    unfold entsE
    rw [if_neg h1, if_pos (by rw [e, h2]; exact h3), e, h2]
  refine loop_to 3 l.length (fun k t => t.t 3 = .int .i64 k ∧ t.t 0 = .ro l.length (fl entCd l) ∧ fe (entsE1 l) k = 0) (fun k t h => h.1) (by simp -dsimp [fe]) (fun k t hk hI => ?_)
  obtain ⟨i3, i0, iu⟩ := hI
  by_cases hlt : k < l.length
  · have hlt' : (k : Int) < (l.length : Int) := by omega
    have hw : IntKind.i64.wrap ((k : Int) + 1) = (k : Int) + 1 := IntWalk.i64_in _ (by omega)
    have hg : l[k]? = some l[k] := List.getElem?_eq_getElem hlt
    have hxo := hok l[k] (List.getElem_mem hlt)
    generalize l[k] = x at hg hxo
    obtain ⟨z, hz⟩ := prev_get hg
    have hwk : 0 < k → IntKind.i64.wrap ((k : Int) - 1) = ((k - 1 : Nat) : Int) := fun h => wrap_pred h (by omega)
    have hbp : ∀ p, 0 < k → before l p k = p z := fun p h => before_pos h (hz h)
    unfold l30_0
    simp -dsimp [i3, i0, hlt', ent_ia hg, ent_ld hg]
    refine call_int (checkEntryRef_ok x hxo) ?_
    simp -dsimp
    refine condK_of ?_ ?_ <;> intro q <;> simp -dsimp [q, i3, i0]
    · have q' : entE x ≠ 0 := by simpa using q
      rw [bad k (entE x) hlt iu (by unfold entsE1; rw [hg]; simp [q']) q']
    have q' : entE x = 0 := by simpa using q
    refine wantT_of ?_ ?_ <;> intro a4 <;> simp -dsimp [a4, i0, i3]
    · have hp : 0 < k := by simpa using a4
      simp -dsimp [hwk hp, ent_ia (hz hp), ent_ld (hz hp), ent_ia hg, ent_ld hg, i0, i3]
      refine call_bool (before_ok z x) ?_
      cases hb : befE z x with
      | false =>
        simp -dsimp
        rw [bad k 8 hlt iu (by unfold entsE1; rw [hg]; simp [q', hbp _ hp, hb]) (by decide)]
      | true =>
        simp -dsimp [i3, i0, hw]
        exact ⟨by omega, fe_step iu (by unfold entsE1; rw [hg]; simp [q', hbp _ hp, hb])⟩
    · have hp : ¬ 0 < k := by simpa using a4
      simp -dsimp [i3, i0, hw]
      exact ⟨by omega, fe_step iu (by unfold entsE1; rw [hg]; simp [q', before_zero hp])⟩
  · have hkl : k = l.length := by omega
    subst hkl
    have hE : entsE l = if fe (dup7 l) l.length ≠ 0 then 7 else if 50 < grpN l l.length then 2 else 0 := by
      unfold entsE
      rw [if_neg h1, if_neg (by rw [iu]; simp)]
    unfold l30_0
    simp -dsimp [i3, i0]
    refine loop_to 5 l.length (fun k t => t.t 5 = .int .i64 k ∧ t.t 0 = .ro l.length (fl entCd l) ∧ fe (dup7 l) k = 0) (fun k t h => h.1) (by simp -dsimp [fe, i0]) (fun j s hj hJ => ?_)
    obtain ⟨j5, j0, ju⟩ := hJ
    by_cases hjl : j < l.length
    · have hjl' : (j : Int) < (l.length : Int) := by omega
      have hw : IntKind.i64.wrap ((j : Int) + 1) = (j : Int) + 1 := IntWalk.i64_in _ (by omega)
      have hg : l[j]? = some l[j] := List.getElem?_eq_getElem hjl
      generalize l[j] = x at hg
      have hfd := find_dup hg
      unfold l30_1
      simp -dsimp [j5, j0, hjl', ent_ia hg, ent_l0 hg]
      refine call_int (find_ok l x.1 (by omega)) ?_
      simp -dsimp [j5]
      rw [hfd]
      cases d : dupAt l j with
      | true =>
        simp -dsimp
        have := fe_stop ju (k := j) (n := l.length) (by unfold dup7; rw [if_pos d]; decide) hjl
        rw [hE, if_pos (by rw [this]; unfold dup7; rw [if_pos d]; decide)]
      | false =>
        simp -dsimp [j5, j0, hw]
        exact ⟨by omega, fe_step ju (by unfold dup7; rw [if_neg (by rw [d]; decide)])⟩
    · have hjl' : j = l.length := by omega
      subst hjl'
      unfold l30_1
      simp -dsimp [j5, j0]
      refine call_int (groups_ok l (by omega)) ?_
      rw [if_neg (by rw [ju]; simp)] at hE
      simp -dsimp
      by_cases q : 50 < grpN l l.length
      · have q' : (50 : Int) < (grpN l l.length : Int) := by omega
        simp -dsimp [q']
        rw [hE, if_pos q]
      · have q' : ¬ (50 : Int) < (grpN l l.length : Int) := by omega
        simp -dsimp [q']
        rw [hE, if_neg q]
end Go.Proofs.P4
end
section
set_option linter.unusedVariables false
set_option linter.unusedSimpArgs false
namespace Go.Proofs.P4
open Go.Ex
def l18_0 : Cmd := (.seq (.seq (.reg false [⟨(some 7), none, (.mov (.t 0)), []⟩, ⟨(some 8), none, (.bin .neq (.t 7) (.c (.str []))), []⟩]) (.cond (.t 8) .skip (.exit 0))) (.seq (.block 1 (.seq (.reg false [⟨(some 11), none, (.mov (.t 0)), []⟩, ⟨(some 12), none, (.call 40 [(.t 11), (.c (.int .u8 10))]), []⟩, ⟨(some 6), none, (.mov (.t 12)), []⟩]) (.seq (.seq (.reg false [⟨(some 13), none, (.mov (.t 6)), []⟩, ⟨(some 14), none, (.bin .lss (.t 13) (.c (.int .i64 0))), []⟩, ⟨(some 15), none, (.mov (.t 14)), []⟩, ⟨(some 16), (some (15, false)), (.mov (.t 1)), []⟩, ⟨(some 17), (some (15, false)), (.mov (.t 0)), []⟩, ⟨(some 18), (some (15, false)), (.mov (.t 6)), []⟩, ⟨(some 19), (some (15, false)), (.slc true (.t 17) none (some (.t 18)) 1), []⟩, ⟨(some 20), (some (15, false)), (.calv (.t 16) [(.t 19)]), []⟩, ⟨(some 21), (some (15, false)), (.un .not (.t 20)), []⟩, ⟨(some 22), none, (.pick (.t 15) (.c (.bool true)) (.t 21)), []⟩]) (.cond (.t 22) (.seq (.reg false [⟨(some 23), none, (.mov (.t 5)), []⟩, ⟨(some 4), none, (.mov (.t 23)), []⟩]) .ret) .skip)) (.reg false [⟨(some 24), none, (.mov (.t 0)), []⟩, ⟨(some 25), none, (.mov (.t 6)), []⟩, ⟨(some 26), none, (.bin .add (.t 25) (.c (.int .i64 1))), []⟩, ⟨(some 27), none, (.slc true (.t 24) (some (.t 26)) none 1), []⟩, ⟨(some 0), none, (.mov (.t 27)), []⟩])))) (.reg false [⟨(some 9), none, (.mov (.t 5)), []⟩, ⟨(some 10), none, (.bin .add (.t 9) (.c (.int .i64 1))), []⟩, ⟨(some 5), none, (.mov (.t 10)), []⟩])))
def c18 : Cmd := (.seq (.reg false [⟨(some 4), none, (.mov (.c (.int .i64 0))), []⟩]) (.seq (.seq (.reg false [⟨(some 5), none, (.mov (.c (.int .i64 1))), []⟩]) (.block 0 (.loop l18_0))) (.seq (.reg false [⟨(some 4), none, (.mov (.c (.int .i64 0))), []⟩]) .ret)))
theorem h18 : compF Tryd.prog sh 18 = some (c18, [4], 28) := by kernel_rfl
def k46_0 : Cmd := (.block 1 (.seq (.reg false [⟨(some 30), none, (.mov (.t 28)), []⟩, ⟨(some 7), none, (.mov (.t 30)), []⟩]) (.seq (.seq (.reg false [⟨(some 31), none, (.mov (.t 0)), []⟩, ⟨(some 32), none, (.mov (.t 7)), []⟩, ⟨(some 33), none, (.idx (.t 31) (.t 32)), []⟩, ⟨(some 34), none, (.bin .lss (.t 33) (.c (.int .u8 48))), []⟩, ⟨(some 35), none, (.mov (.t 34)), []⟩, ⟨(some 36), (some (35, false)), (.mov (.t 0)), []⟩, ⟨(some 37), (some (35, false)), (.mov (.t 7)), []⟩, ⟨(some 38), (some (35, false)), (.idx (.t 36) (.t 37)), []⟩, ⟨(some 39), (some (35, false)), (.bin .gtr (.t 38) (.c (.int .u8 57))), []⟩, ⟨(some 40), none, (.pick (.t 35) (.c (.bool true)) (.t 39)), []⟩]) (.cond (.t 40) (.seq (.reg false [⟨(some 4), none, (.mov (.c (.int .i64 0))), []⟩, ⟨(some 5), none, (.mov (.c (.bool false))), []⟩]) .ret) .skip)) (.reg false [⟨(some 41), none, (.mov (.t 6)), []⟩, ⟨(some 42), none, (.bin .mul (.t 41) (.c (.int .i64 10))), []⟩, ⟨(some 43), none, (.mov (.t 0)), []⟩, ⟨(some 44), none, (.mov (.t 7)), []⟩, ⟨(some 45), none, (.idx (.t 43) (.t 44)), []⟩, ⟨(some 46), none, (.bin .sub (.t 45) (.c (.int .u8 48))), []⟩, ⟨(some 47), none, (.conv .i64 (.t 46)), []⟩, ⟨(some 48), none, (.bin .add (.t 42) (.t 47)), []⟩, ⟨(some 6), none, (.mov (.t 48)), []⟩]))))
abbrev l46_0 : Cmd := cnt 0 29 28 27 49 k46_0
def c46 : Cmd := (.seq (.reg false [⟨(some 4), none, (.mov (.c (.int .i64 0))), []⟩, ⟨(some 5), none, (.mov (.c (.bool false))), []⟩]) (.seq (.seq (.reg false [⟨(some 8), none, (.mov (.t 0)), []⟩, ⟨(some 9), none, (.bin .eql (.t 8) (.c (.str []))), []⟩, ⟨(some 10), none, (.mov (.t 9)), []⟩, ⟨(some 11), (some (10, false)), (.mov (.t 0)), []⟩, ⟨(some 12), (some (10, false)), (.len true (.t 11)), []⟩, ⟨(some 13), (some (10, false)), (.mov (.t 1)), []⟩, ⟨(some 14), (some (10, false)), (.bin .gtr (.t 12) (.t 13)), []⟩, ⟨(some 15), none, (.pick (.t 10) (.c (.bool true)) (.t 14)), []⟩, ⟨(some 16), none, (.mov (.t 15)), []⟩, ⟨(some 17), (some (16, false)), (.mov (.t 0)), []⟩, ⟨(some 18), (some (16, false)), (.idx (.t 17) (.c (.int .i64 0))), []⟩, ⟨(some 19), (some (16, false)), (.bin .eql (.t 18) (.c (.int .u8 48))), []⟩, ⟨(some 20), (some (16, false)), (.mov (.t 19)), []⟩, ⟨(some 21), (some (20, true)), (.mov (.t 0)), []⟩, ⟨(some 22), (some (20, true)), (.len true (.t 21)), []⟩, ⟨(some 23), (some (20, true)), (.bin .gtr (.t 22) (.c (.int .i64 1))), []⟩, ⟨(some 24), (some (16, false)), (.pick (.t 20) (.t 23) (.c (.bool false))), []⟩, ⟨(some 25), none, (.pick (.t 16) (.c (.bool true)) (.t 24)), []⟩]) (.cond (.t 25) (.seq (.reg false [⟨(some 4), none, (.mov (.c (.int .i64 0))), []⟩, ⟨(some 5), none, (.mov (.c (.bool false))), []⟩]) .ret) .skip)) (.seq (.reg false [⟨(some 6), none, (.mov (.c (.int .i64 0))), []⟩]) (.seq (.seq (.reg false [⟨(some 26), none, (.mov (.t 0)), []⟩, ⟨(some 27), none, (.len true (.t 26)), []⟩, ⟨(some 28), none, (.mov (.c (.int .i64 0))), []⟩]) (.block 0 (.loop l46_0))) (.seq (.reg false [⟨(some 50), none, (.mov (.t 6)), []⟩, ⟨(some 4), none, (.mov (.t 50)), []⟩, ⟨(some 5), none, (.mov (.c (.bool true))), []⟩]) .ret)))))
theorem h46 : compF Tryd.prog sh 46 = some (c46, [4, 5], 51) := by kernel_rfl
def c91 : Cmd := (.seq (.reg false [⟨(some 6), none, (.mov (.c (.bool false))), []⟩]) (.seq (.reg false [⟨(some 7), none, (.mov (.t 0)), []⟩, ⟨(some 8), none, (.mov (.t 1)), []⟩, ⟨(some 9), none, (.bin .geq (.t 7) (.t 8)), []⟩, ⟨(some 10), none, (.mov (.t 9)), []⟩, ⟨(some 11), (some (10, true)), (.mov (.t 0)), []⟩, ⟨(some 12), (some (10, true)), (.mov (.t 2)), []⟩, ⟨(some 13), (some (10, true)), (.bin .leq (.t 11) (.t 12)), []⟩, ⟨(some 14), none, (.pick (.t 10) (.t 13) (.c (.bool false))), []⟩, ⟨(some 6), none, (.mov (.t 14)), []⟩]) .ret))
theorem h91 : compF Tryd.prog sh 91 = some (c91, [6], 15) := by kernel_rfl
def l65_0 : Cmd := (.seq (.seq (.reg false [⟨(some 23), none, (.mov (.t 7)), []⟩, ⟨(some 24), none, (.mov (.t 0)), []⟩, ⟨(some 25), none, (.len true (.t 24)), []⟩, ⟨(some 26), none, (.bin .lss (.t 23) (.t 25)), []⟩]) (.cond (.t 26) .skip (.exit 0))) (.seq (.block 1 (.seq (.seq (.reg false [⟨(some 29), none, (.mov (.t 0)), []⟩, ⟨(some 30), none, (.mov (.t 7)), []⟩, ⟨(some 31), none, (.idx (.t 29) (.t 30)), []⟩, ⟨(some 32), none, (.bin .lss (.t 31) (.c (.int .u8 48))), []⟩, ⟨(some 33), none, (.mov (.t 32)), []⟩, ⟨(some 34), (some (33, false)), (.mov (.t 0)), []⟩, ⟨(some 35), (some (33, false)), (.mov (.t 7)), []⟩, ⟨(some 36), (some (33, false)), (.idx (.t 34) (.t 35)), []⟩, ⟨(some 37), (some (33, false)), (.bin .gtr (.t 36) (.c (.int .u8 57))), []⟩, ⟨(some 38), none, (.pick (.t 33) (.c (.bool true)) (.t 37)), []⟩]) (.cond (.t 38) (.seq (.reg false [⟨(some 4), none, (.mov (.c (.int .i64 0))), []⟩, ⟨(some 5), none, (.mov (.c (.bool false))), []⟩]) .ret) .skip)) (.reg false [⟨(some 39), none, (.mov (.t 6)), []⟩, ⟨(some 40), none, (.bin .mul (.c (.int .i64 10)) (.t 39)), []⟩, ⟨(some 41), none, (.mov (.t 0)), []⟩, ⟨(some 42), none, (.mov (.t 7)), []⟩, ⟨(some 43), none, (.idx (.t 41) (.t 42)), []⟩, ⟨(some 44), none, (.bin .sub (.t 43) (.c (.int .u8 48))), []⟩, ⟨(some 45), none, (.conv .i64 (.t 44)), []⟩, ⟨(some 46), none, (.bin .add (.t 40) (.t 45)), []⟩, ⟨(some 6), none, (.mov (.t 46)), []⟩]))) (.reg false [⟨(some 27), none, (.mov (.t 7)), []⟩, ⟨(some 28), none, (.bin .add (.t 27) (.c (.int .i64 1))), []⟩, ⟨(some 7), none, (.mov (.t 28)), []⟩])))
def c65 : Cmd := (.seq (.reg false [⟨(some 4), none, (.mov (.c (.int .i64 0))), []⟩, ⟨(some 5), none, (.mov (.c (.bool false))), []⟩]) (.seq (.seq (.reg false [⟨(some 8), none, (.mov (.t 0)), []⟩, ⟨(some 9), none, (.len true (.t 8)), []⟩, ⟨(some 10), none, (.mov (.t 1)), []⟩, ⟨(some 11), none, (.call 91 [(.t 9), (.c (.int .i64 1)), (.t 10)]), []⟩, ⟨(some 12), none, (.un .not (.t 11)), []⟩, ⟨(some 13), none, (.mov (.t 12)), []⟩, ⟨(some 14), (some (13, false)), (.mov (.t 0)), []⟩, ⟨(some 15), (some (13, false)), (.idx (.t 14) (.c (.int .i64 0))), []⟩, ⟨(some 16), (some (13, false)), (.bin .eql (.t 15) (.c (.int .u8 48))), []⟩, ⟨(some 17), (some (13, false)), (.mov (.t 16)), []⟩, ⟨(some 18), (some (17, true)), (.mov (.t 0)), []⟩, ⟨(some 19), (some (17, true)), (.len true (.t 18)), []⟩, ⟨(some 20), (some (17, true)), (.bin .gtr (.t 19) (.c (.int .i64 1))), []⟩, ⟨(some 21), (some (13, false)), (.pick (.t 17) (.t 20) (.c (.bool false))), []⟩, ⟨(some 22), none, (.pick (.t 13) (.c (.bool true)) (.t 21)), []⟩]) (.cond (.t 22) (.seq (.reg false [⟨(some 4), none, (.mov (.c (.int .i64 0))), []⟩, ⟨(some 5), none, (.mov (.c (.bool false))), []⟩]) .ret) .skip)) (.seq (.reg false [⟨(some 6), none, (.mov (.c (.int .i64 0))), []⟩]) (.seq (.seq (.reg false [⟨(some 7), none, (.mov (.c (.int .i64 0))), []⟩]) (.block 0 (.loop l65_0))) (.seq (.reg false [⟨(some 47), none, (.mov (.t 6)), []⟩, ⟨(some 4), none, (.mov (.t 47)), []⟩, ⟨(some 5), none, (.mov (.c (.bool true))), []⟩]) .ret)))))
theorem h65 : compF Tryd.prog sh 65 = some (c65, [4, 5], 48) := by kernel_rfl
def c25 : Cmd := (.seq (.reg false [⟨(some 2), none, (.mov (.c (.str []))), []⟩]) (.seq (.seq (.reg false [⟨(some 3), none, (.mov (.t 0)), []⟩, ⟨(some 4), none, (.bin .eql (.t 3) (.c (.str []))), []⟩]) (.cond (.t 4) (.seq (.reg false [⟨(some 2), none, (.mov (.c (.str [45]))), []⟩]) .ret) .skip)) (.seq (.reg false [⟨(some 5), none, (.mov (.t 0)), []⟩, ⟨(some 2), none, (.mov (.t 5)), []⟩]) .ret)))
theorem h25 : compF Tryd.prog sh 25 = some (c25, [2], 6) := by kernel_rfl
def c59 : Cmd := (.seq (.reg false [⟨(some 2), none, (.mov (.c (.str []))), []⟩]) (.seq (.seq (.reg false [⟨(some 3), none, (.mov (.t 0)), []⟩, ⟨(some 4), none, (.bin .eql (.t 3) (.c (.str [45]))), []⟩]) (.cond (.t 4) (.seq (.reg false [⟨(some 2), none, (.mov (.c (.str []))), []⟩]) .ret) .skip)) (.seq (.reg false [⟨(some 5), none, (.mov (.t 0)), []⟩, ⟨(some 2), none, (.mov (.t 5)), []⟩]) .ret)))
theorem h59 : compF Tryd.prog sh 59 = some (c59, [2], 6) := by kernel_rfl
def k21_0 : Cmd := (.block 1 (.seq (.reg false [⟨(some 8), none, (.mov (.t 6)), []⟩, ⟨(some 3), none, (.mov (.t 8)), []⟩]) (.seq (.reg false [⟨(some 9), none, (.mov (.t 0)), []⟩, ⟨(some 10), none, (.mov (.t 3)), []⟩, ⟨(some 11), none, (.idx (.t 9) (.t 10)), []⟩, ⟨(some 12), none, (.bin .lss (.t 11) (.c (.int .u8 33))), []⟩, ⟨(some 13), none, (.mov (.t 12)), []⟩, ⟨(some 14), (some (13, false)), (.mov (.t 0)), []⟩, ⟨(some 15), (some (13, false)), (.mov (.t 3)), []⟩, ⟨(some 16), (some (13, false)), (.idx (.t 14) (.t 15)), []⟩, ⟨(some 17), (some (13, false)), (.bin .gtr (.t 16) (.c (.int .u8 126))), []⟩, ⟨(some 18), none, (.pick (.t 13) (.c (.bool true)) (.t 17)), []⟩]) (.cond (.t 18) (.seq (.reg false [⟨(some 2), none, (.mov (.c (.bool false))), []⟩]) .ret) .skip))))
abbrev l21_0 : Cmd := cnt 0 7 6 5 19 k21_0
def c21 : Cmd := (.seq (.reg false [⟨(some 2), none, (.mov (.c (.bool false))), []⟩]) (.seq (.seq (.reg false [⟨(some 4), none, (.mov (.t 0)), []⟩, ⟨(some 5), none, (.len true (.t 4)), []⟩, ⟨(some 6), none, (.mov (.c (.int .i64 0))), []⟩]) (.block 0 (.loop l21_0))) (.seq (.reg false [⟨(some 20), none, (.mov (.t 0)), []⟩, ⟨(some 21), none, (.bin .neq (.t 20) (.c (.str []))), []⟩, ⟨(some 2), none, (.mov (.t 21)), []⟩]) .ret)))
theorem h21 : compF Tryd.prog sh 21 = some (c21, [2], 22) := by kernel_rfl
def k17_0 : Cmd := (.block 1 (.seq (.reg false [⟨(some 11), none, (.iaddr (.t 7) (.t 9) 1), []⟩, ⟨(some 12), none, (.ld (.t 11) none), []⟩, ⟨(some 6), none, (.mov (.t 12)), []⟩]) (.reg false [⟨(some 13), none, (.mov (.t 4)), []⟩, ⟨(some 14), none, (.mov (.t 6)), []⟩, ⟨(some 15), none, (.len true (.t 14)), []⟩, ⟨(some 16), none, (.bin .add (.t 15) (.c (.int .i64 1))), []⟩, ⟨(some 17), none, (.bin .add (.t 13) (.t 16)), []⟩, ⟨(some 4), none, (.mov (.t 17)), []⟩])))
abbrev l17_0 : Cmd := cnt 0 10 9 8 18 k17_0
def c17 : Cmd := (.seq (.reg false [⟨(some 2), none, (.mov (.c (.str []))), []⟩, ⟨(some 3), none, (.mov (.c (.int .i64 0))), []⟩]) (.seq (.reg false [⟨(some 4), none, (.mov (.c (.int .i64 0))), []⟩]) (.seq (.seq (.reg false [⟨(some 7), none, (.mov (.t 0)), []⟩, ⟨(some 8), none, (.len false (.t 7)), []⟩, ⟨(some 9), none, (.mov (.c (.int .i64 0))), []⟩]) (.block 0 (.loop l17_0))) (.seq (.seq (.reg false [⟨(some 19), none, (.mov (.t 4)), []⟩, ⟨(some 20), none, (.bin .gtr (.t 19) (.c (.int .i64 300000))), []⟩]) (.cond (.t 20) (.seq (.reg false [⟨(some 2), none, (.mov (.c (.str []))), []⟩, ⟨(some 3), none, (.mov (.c (.int .i64 2))), []⟩]) .ret) .skip)) (.seq (.seq (.reg false [⟨(some 21), none, (.mov (.t 0)), []⟩, ⟨(some 22), none, (.len false (.t 21)), []⟩, ⟨(some 23), none, (.bin .eql (.t 22) (.c (.int .i64 0))), []⟩]) (.cond (.t 23) (.seq (.reg false [⟨(some 2), none, (.mov (.c (.str []))), []⟩, ⟨(some 3), none, (.mov (.c (.int .i64 0))), []⟩]) .ret) .skip)) (.seq (.reg false [⟨(some 24), none, (.mov (.t 0)), []⟩, ⟨(some 25), none, (.call 26 [(.t 24), (.c (.str [10]))]), []⟩, ⟨(some 26), none, (.bin .add (.t 25) (.c (.str [10]))), []⟩, ⟨(some 2), none, (.mov (.t 26)), []⟩, ⟨(some 3), none, (.mov (.c (.int .i64 0))), []⟩]) .ret))))))
theorem h17 : compF Tryd.prog sh 17 = some (c17, [2, 3], 27) := by kernel_rfl
def k10_0 : Cmd := (.block 1 (.seq (.reg false [⟨(some 18), none, (.iaddr (.t 14) (.t 16) 6), []⟩, ⟨(some 19), none, (.ld (.t 18) (some 6)), []⟩, ⟨(some 7), none, (.alloc [(.int .i64 0), (.int .i64 0), (.str []), (.str []), (.str []), (.bool false)]), []⟩, ⟨none, none, (.st (.t 7) (.t 19) 6), []⟩]) (.seq (.reg false [⟨(some 20), none, (.faddr (.t 7) 4), []⟩, ⟨(some 21), none, (.ld (.t 20) none), []⟩, ⟨(some 22), none, (.call 25 [(.t 21)]), []⟩, ⟨(some 8), none, (.mov (.t 22)), []⟩]) (.seq (.seq (.reg false [⟨(some 23), none, (.faddr (.t 7) 5), []⟩, ⟨(some 24), none, (.ld (.t 23) none), []⟩]) (.cond (.t 24) (.reg false [⟨(some 25), none, (.faddr (.t 7) 4), []⟩, ⟨(some 26), none, (.ld (.t 25) none), []⟩, ⟨(some 27), none, (.bin .add (.c (.str [33])) (.t 26)), []⟩, ⟨(some 8), none, (.mov (.t 27)), []⟩]) .skip)) (.reg true [⟨(some 28), none, (.mov (.t 5)), []⟩, ⟨(some 29), none, (.faddr (.t 7) 0), []⟩, ⟨(some 30), none, (.ld (.t 29) none), []⟩, ⟨(some 31), none, (.call 27 [(.t 30)]), []⟩, ⟨(some 32), none, (.faddr (.t 7) 1), []⟩, ⟨(some 33), none, (.ld (.t 32) none), [3]⟩, ⟨(some 34), none, (.call 27 [(.t 33)]), []⟩, ⟨(some 35), none, (.faddr (.t 7) 3), []⟩, ⟨(some 36), none, (.ld (.t 35) none), [3, 6]⟩, ⟨(some 37), none, (.call 25 [(.t 36)]), []⟩, ⟨(some 38), none, (.mov (.t 8)), []⟩, ⟨(some 39), none, (.faddr (.t 7) 2), []⟩, ⟨(some 40), none, (.ld (.t 39) none), [3, 6, 9]⟩, ⟨(some 41), none, (.bs 5 1 [(.str [])] [(0, (.t 31)), (1, (.t 34)), (2, (.t 37)), (3, (.t 38)), (4, (.t 40))]), []⟩, ⟨(some 42), none, (.call 26 [(.t 41), (.c (.str [32]))]), []⟩, ⟨(some 43), none, (.bs 1 1 [(.str [])] [(0, (.t 42))]), []⟩, ⟨(some 44), none, (.app 1 16 (.t 28) (.t 43)), []⟩, ⟨(some 5), none, (.mov (.t 44)), []⟩])))))
abbrev l10_0 : Cmd := cnt 0 17 16 15 45 k10_0
def c10 : Cmd := (.seq (.reg false [⟨(some 2), none, (.mov (.c (.str []))), []⟩, ⟨(some 3), none, (.mov (.c (.int .i64 0))), []⟩]) (.seq (.seq (.reg false [⟨(some 9), none, (.mov (.t 0)), []⟩, ⟨(some 10), none, (.call 24 [(.t 9)]), []⟩, ⟨(some 4), none, (.mov (.t 10)), []⟩]) (.seq (.reg false [⟨(some 11), none, (.mov (.t 4)), []⟩, ⟨(some 12), none, (.bin .neq (.t 11) (.c (.int .i64 0))), []⟩]) (.cond (.t 12) (.seq (.reg false [⟨(some 13), none, (.mov (.t 4)), []⟩, ⟨(some 2), none, (.mov (.c (.str []))), []⟩, ⟨(some 3), none, (.mov (.t 13)), []⟩]) .ret) .skip))) (.seq (.reg false [⟨(some 5), none, (.mov (.c .ns)), []⟩]) (.seq (.seq (.reg false [⟨(some 14), none, (.mov (.t 0)), []⟩, ⟨(some 15), none, (.len false (.t 14)), []⟩, ⟨(some 16), none, (.mov (.c (.int .i64 0))), []⟩]) (.block 0 (.loop l10_0))) (.seq (.reg false [⟨(some 46), none, (.mov (.t 5)), []⟩, ⟨(some 47), none, (.call 17 [(.t 46)]), []⟩, ⟨(some 48), none, (.ext (.t 47) 0), []⟩, ⟨(some 49), none, (.ext (.t 47) 1), []⟩, ⟨(some 2), none, (.mov (.t 48)), []⟩, ⟨(some 3), none, (.mov (.t 49)), []⟩]) .ret)))))
theorem h10 : compF Tryd.prog sh 10 = some (c10, [2, 3], 50) := by kernel_rfl
def c29 : Cmd := (.seq (.reg false [⟨(some 2), none, (.alloc [(.int .i64 0), (.int .i64 0), (.str []), (.str []), (.str []), (.bool false)]), []⟩, ⟨(some 3), none, (.mov (.c (.bool false))), []⟩]) (.seq (.reg false [⟨(some 12), none, (.mov (.t 0)), []⟩, ⟨(some 13), none, (.call 58 [(.t 12), (.c (.str [32])), (.c (.int .i64 5))]), []⟩, ⟨(some 4), none, (.mov (.t 13)), []⟩]) (.seq (.seq (.reg false [⟨(some 14), none, (.mov (.t 4)), []⟩, ⟨(some 15), none, (.len false (.t 14)), []⟩, ⟨(some 16), none, (.bin .lss (.t 15) (.c (.int .i64 5))), []⟩, ⟨(some 17), none, (.mov (.t 16)), []⟩, ⟨(some 18), (some (17, false)), (.mov (.t 4)), []⟩, ⟨(some 19), (some (17, false)), (.iaddr (.t 18) (.c (.int .i64 2)) 1), []⟩, ⟨(some 20), (some (17, false)), (.ld (.t 19) none), []⟩, ⟨(some 21), (some (17, false)), (.call 21 [(.t 20)]), []⟩, ⟨(some 22), (some (17, false)), (.un .not (.t 21)), []⟩, ⟨(some 23), none, (.pick (.t 17) (.c (.bool true)) (.t 22)), []⟩, ⟨(some 24), none, (.mov (.t 23)), []⟩, ⟨(some 25), (some (24, false)), (.mov (.t 4)), []⟩, ⟨(some 26), (some (24, false)), (.iaddr (.t 25) (.c (.int .i64 3)) 1), []⟩, ⟨(some 27), (some (24, false)), (.ld (.t 26) none), []⟩, ⟨(some 28), (some (24, false)), (.call 21 [(.t 27)]), []⟩, ⟨(some 29), (some (24, false)), (.un .not (.t 28)), []⟩, ⟨(some 30), none, (.pick (.t 24) (.c (.bool true)) (.t 29)), []⟩, ⟨(some 31), none, (.mov (.t 30)), []⟩, ⟨(some 32), (some (31, false)), (.mov (.t 4)), []⟩, ⟨(some 33), (some (31, false)), (.iaddr (.t 32) (.c (.int .i64 4)) 1), []⟩, ⟨(some 34), (some (31, false)), (.ld (.t 33) none), []⟩, ⟨(some 35), (some (31, false)), (.call 42 [(.t 34)]), []⟩, ⟨(some 36), (some (31, false)), (.un .not (.t 35)), []⟩, ⟨(some 37), none, (.pick (.t 31) (.c (.bool true)) (.t 36)), []⟩]) (.cond (.t 37) (.seq (.reg false [⟨(some 38), none, (.bld [(.int .i64 0), (.int .i64 0), (.str []), (.str []), (.str []), (.bool false)] []), []⟩, ⟨none, none, (.st (.t 2) (.t 38) 6), []⟩, ⟨(some 3), none, (.mov (.c (.bool false))), []⟩]) .ret) .skip)) (.seq (.reg false [⟨(some 40), none, (.mov (.t 4)), []⟩, ⟨(some 41), none, (.iaddr (.t 40) (.c (.int .i64 0)) 1), []⟩, ⟨(some 42), none, (.ld (.t 41) none), []⟩, ⟨(some 43), none, (.call 46 [(.t 42), (.c (.int .i64 13))]), []⟩, ⟨(some 39), none, (.mov (.t 43)), []⟩, ⟨(some 44), none, (.ext (.t 39) 0), []⟩, ⟨(some 45), none, (.ext (.t 39) 1), []⟩, ⟨(some 5), none, (.mov (.t 44)), []⟩, ⟨(some 6), none, (.mov (.t 45)), []⟩]) (.seq (.reg false [⟨(some 47), none, (.mov (.t 4)), []⟩, ⟨(some 48), none, (.iaddr (.t 47) (.c (.int .i64 1)) 1), []⟩, ⟨(some 49), none, (.ld (.t 48) none), []⟩, ⟨(some 50), none, (.call 46 [(.t 49), (.c (.int .i64 13))]), []⟩, ⟨(some 46), none, (.mov (.t 50)), []⟩, ⟨(some 51), none, (.ext (.t 46) 0), []⟩, ⟨(some 52), none, (.ext (.t 46) 1), []⟩, ⟨(some 7), none, (.mov (.t 51)), []⟩, ⟨(some 8), none, (.mov (.t 52)), []⟩]) (.seq (.reg true [⟨(some 53), none, (.mov (.t 5)), []⟩, ⟨(some 54), none, (.mov (.t 7)), []⟩, ⟨(some 55), none, (.mov (.t 4)), []⟩, ⟨(some 56), none, (.iaddr (.t 55) (.c (.int .i64 2)) 1), []⟩, ⟨(some 57), none, (.ld (.t 56) none), []⟩, ⟨(some 58), none, (.call 59 [(.t 57)]), []⟩, ⟨(some 59), none, (.mov (.t 4)), []⟩, ⟨(some 60), none, (.iaddr (.t 59) (.c (.int .i64 4)) 1), [5]⟩, ⟨(some 61), none, (.ld (.t 60) none), [5]⟩, ⟨(some 62), none, (.bld [(.int .i64 0), (.int .i64 0), (.str []), (.str []), (.str []), (.bool false)] [(0, (1, (.t 53))), (1, (1, (.t 54))), (3, (1, (.t 58))), (2, (1, (.t 61)))]), []⟩, ⟨(some 9), none, (.alloc [(.int .i64 0), (.int .i64 0), (.str []), (.str []), (.str []), (.bool false)]), [3, 4, 5, 7, 8]⟩, ⟨none, none, (.st (.t 9) (.t 62) 6), []⟩]) (.seq (.seq (.reg false [⟨(some 64), none, (.mov (.t 4)), []⟩, ⟨(some 65), none, (.iaddr (.t 64) (.c (.int .i64 3)) 1), []⟩, ⟨(some 66), none, (.ld (.t 65) none), []⟩, ⟨(some 67), none, (.call 20 [(.t 66), (.c (.str [33]))]), []⟩, ⟨(some 63), none, (.mov (.t 67)), []⟩, ⟨(some 68), none, (.ext (.t 63) 0), []⟩, ⟨(some 69), none, (.ext (.t 63) 1), []⟩, ⟨(some 10), none, (.mov (.t 68)), []⟩, ⟨(some 11), none, (.mov (.t 69)), []⟩]) (.seq (.reg false [⟨(some 70), none, (.mov (.t 11)), []⟩, ⟨(some 71), none, (.mov (.t 70)), []⟩, ⟨(some 72), (some (71, true)), (.mov (.t 10)), []⟩, ⟨(some 73), (some (71, true)), (.bin .eql (.t 72) (.c (.str []))), []⟩, ⟨(some 74), none, (.pick (.t 71) (.t 73) (.c (.bool false))), []⟩]) (.cond (.t 74) (.seq (.reg false [⟨(some 75), none, (.bld [(.int .i64 0), (.int .i64 0), (.str []), (.str []), (.str []), (.bool false)] []), []⟩, ⟨none, none, (.st (.t 2) (.t 75) 6), []⟩, ⟨(some 3), none, (.mov (.c (.bool false))), []⟩]) .ret) (.seq (.reg false [⟨(some 76), none, (.mov (.t 11)), []⟩]) (.cond (.t 76) (.reg false [⟨(some 77), none, (.mov (.t 10)), []⟩, ⟨(some 78), none, (.faddr (.t 9) 4), []⟩, ⟨none, none, (.st (.t 78) (.t 77) 1), []⟩, ⟨(some 79), none, (.faddr (.t 9) 5), []⟩, ⟨none, none, (.st (.t 79) (.c (.bool true)) 1), []⟩]) (.reg false [⟨(some 80), none, (.mov (.t 4)), []⟩, ⟨(some 81), none, (.iaddr (.t 80) (.c (.int .i64 3)) 1), []⟩, ⟨(some 82), none, (.ld (.t 81) none), []⟩, ⟨(some 83), none, (.call 59 [(.t 82)]), []⟩, ⟨(some 84), none, (.faddr (.t 9) 4), []⟩, ⟨none, none, (.st (.t 84) (.t 83) 1), []⟩])))))) (.seq (.reg false [⟨(some 85), none, (.ld (.t 9) (some 6)), []⟩, ⟨(some 86), none, (.mov (.t 6)), []⟩, ⟨(some 87), none, (.mov (.t 86)), []⟩, ⟨(some 88), (some (87, true)), (.mov (.t 8)), []⟩, ⟨(some 89), none, (.pick (.t 87) (.t 88) (.c (.bool false))), []⟩, ⟨none, none, (.st (.t 2) (.t 85) 6), []⟩, ⟨(some 3), none, (.mov (.t 89)), []⟩]) .ret))))))))
theorem h29 : compG Tryd.prog sh 29 = some (c29, [(.cell 2 (some 6)), (.tmp 3)], 90) := by kernel_rfl
def c11 : Cmd := (.seq (.reg false [⟨(some 2), none, (.mov (.c .ns)), []⟩, ⟨(some 3), none, (.mov (.c (.int .i64 0))), []⟩, ⟨(some 4), none, (.mov (.c (.int .i64 0))), []⟩]) (.seq (.seq (.reg false [⟨(some 8), none, (.mov (.t 0)), []⟩, ⟨(some 9), none, (.len true (.t 8)), []⟩, ⟨(some 10), none, (.bin .gtr (.t 9) (.c (.int .i64 300000))), []⟩]) (.cond (.t 10) (.seq (.reg false [⟨(some 2), none, (.mov (.c .ns)), []⟩, ⟨(some 3), none, (.mov (.c (.int .i64 0))), []⟩, ⟨(some 4), none, (.mov (.c (.int .i64 2))), []⟩]) .ret) .skip)) (.seq (.reg false [⟨(some 5), none, (.alloc [.ns]), []⟩]) (.seq (.reg false [⟨(some 11), none, (.mov (.t 0)), []⟩, ⟨(some 12), none, (.fnc 28 [(.t 5)]), []⟩, ⟨(some 13), none, (.shr 18 [(.t 11), (.t 12)]), []⟩, ⟨(some 6), none, (.mov (.t 13)), []⟩]) (.seq (.seq (.reg false [⟨(some 14), none, (.mov (.t 6)), []⟩, ⟨(some 15), none, (.bin .gtr (.t 14) (.c (.int .i64 0))), []⟩]) (.cond (.t 15) (.seq (.reg false [⟨(some 16), none, (.mov (.t 6)), []⟩, ⟨(some 2), none, (.mov (.c .ns)), []⟩, ⟨(some 3), none, (.mov (.t 16)), []⟩, ⟨(some 4), none, (.mov (.c (.int .i64 10))), []⟩]) .ret) .skip)) (.seq (.seq (.reg false [⟨(some 17), none, (.ld (.t 5) none), []⟩, ⟨(some 18), none, (.call 24 [(.t 17)]), []⟩, ⟨(some 7), none, (.mov (.t 18)), []⟩]) (.seq (.reg false [⟨(some 19), none, (.mov (.t 7)), []⟩, ⟨(some 20), none, (.bin .neq (.t 19) (.c (.int .i64 0))), []⟩]) (.cond (.t 20) (.seq (.reg false [⟨(some 21), none, (.mov (.t 7)), []⟩, ⟨(some 2), none, (.mov (.c .ns)), []⟩, ⟨(some 3), none, (.mov (.c (.int .i64 0))), []⟩, ⟨(some 4), none, (.mov (.t 21)), []⟩]) .ret) .skip))) (.seq (.reg false [⟨(some 22), none, (.ld (.t 5) none), []⟩, ⟨(some 2), none, (.mov (.t 22)), []⟩, ⟨(some 3), none, (.mov (.c (.int .i64 0))), []⟩, ⟨(some 4), none, (.mov (.c (.int .i64 0))), []⟩]) .ret)))))))
theorem h11 : compF Tryd.prog sh 11 = some (c11, [2, 3, 4], 23) := by kernel_rfl
def c28 : Cmd := (.seq (.reg false [⟨(some 3), none, (.mov (.c (.bool false))), []⟩]) (.seq (.reg false [⟨(some 7), none, (.mov (.t 0)), []⟩, ⟨(some 8), none, (.call 29 [(.t 7)]), []⟩, ⟨(some 6), none, (.mov (.t 8)), []⟩, ⟨(some 9), none, (.ext (.t 6) 0), []⟩, ⟨(some 10), none, (.ext (.t 6) 1), []⟩, ⟨(some 4), none, (.alloc [(.int .i64 0), (.int .i64 0), (.str []), (.str []), (.str []), (.bool false)]), []⟩, ⟨none, none, (.st (.t 4) (.t 9) 6), []⟩, ⟨(some 5), none, (.mov (.t 10)), []⟩]) (.seq (.reg false [⟨(some 11), none, (.ld (.t 1) none), []⟩, ⟨(some 12), none, (.ld (.t 4) (some 6)), []⟩, ⟨(some 13), none, (.bs 1 6 [(.int .i64 0), (.int .i64 0), (.str []), (.str []), (.str []), (.bool false)] [(0, (.t 12))]), []⟩, ⟨(some 14), none, (.app 6 72 (.t 11) (.t 13)), []⟩, ⟨none, none, (.st (.t 1) (.t 14) 1), []⟩]) (.seq (.reg false [⟨(some 15), none, (.mov (.t 5)), []⟩, ⟨(some 3), none, (.mov (.t 15)), []⟩]) .ret))))
theorem h28 : compF Tryd.prog sh 28 = some (c28, [3], 16) := by kernel_rfl
def c31 : Cmd := (.seq (.reg false [⟨(some 2), none, (.mov (.c (.str []))), []⟩]) (.seq (.seq (.reg false [⟨(some 3), none, (.mov (.t 0)), []⟩, ⟨(some 4), none, (.bin .eql (.t 3) (.c (.str []))), []⟩]) (.cond (.t 4) (.seq (.reg false [⟨(some 2), none, (.mov (.c (.str [45]))), []⟩]) .ret) .skip)) (.seq (.reg false [⟨(some 5), none, (.mov (.t 0)), []⟩, ⟨(some 2), none, (.mov (.t 5)), []⟩]) .ret)))
theorem h31 : compF Tryd.prog sh 31 = some (c31, [2], 6) := by kernel_rfl
def l66_0 : Cmd := (.seq (.seq (.reg false [⟨(some 6), none, (.mov (.t 5)), []⟩, ⟨(some 7), none, (.mov (.t 0)), []⟩, ⟨(some 8), none, (.len true (.t 7)), []⟩, ⟨(some 9), none, (.bin .lss (.t 6) (.t 8)), []⟩]) (.cond (.t 9) .skip (.exit 0))) (.seq (.block 1 (.seq (.reg false [⟨(some 12), none, (.mov (.t 0)), []⟩, ⟨(some 13), none, (.mov (.t 5)), []⟩, ⟨(some 14), none, (.idx (.t 12) (.t 13)), []⟩, ⟨(some 15), none, (.mov (.t 1)), []⟩, ⟨(some 16), none, (.bin .lss (.t 14) (.t 15)), []⟩, ⟨(some 17), none, (.mov (.t 16)), []⟩, ⟨(some 18), (some (17, false)), (.mov (.t 0)), []⟩, ⟨(some 19), (some (17, false)), (.mov (.t 5)), []⟩, ⟨(some 20), (some (17, false)), (.idx (.t 18) (.t 19)), []⟩, ⟨(some 21), (some (17, false)), (.bin .gtr (.t 20) (.c (.int .u8 126))), []⟩, ⟨(some 22), none, (.pick (.t 17) (.c (.bool true)) (.t 21)), []⟩]) (.cond (.t 22) (.seq (.reg false [⟨(some 4), none, (.mov (.c (.bool false))), []⟩]) .ret) .skip))) (.reg false [⟨(some 10), none, (.mov (.t 5)), []⟩, ⟨(some 11), none, (.bin .add (.t 10) (.c (.int .i64 1))), []⟩, ⟨(some 5), none, (.mov (.t 11)), []⟩])))
def c66 : Cmd := (.seq (.reg false [⟨(some 4), none, (.mov (.c (.bool false))), []⟩]) (.seq (.seq (.reg false [⟨(some 5), none, (.mov (.c (.int .i64 0))), []⟩]) (.block 0 (.loop l66_0))) (.seq (.reg false [⟨(some 23), none, (.mov (.t 0)), []⟩, ⟨(some 24), none, (.bin .neq (.t 23) (.c (.str []))), []⟩, ⟨(some 4), none, (.mov (.t 24)), []⟩]) .ret)))
theorem h66 : compF Tryd.prog sh 66 = some (c66, [4], 25) := by kernel_rfl
def l13_0 : Cmd := (.seq (.seq (.reg false [⟨(some 13), none, (.mov (.t 6)), []⟩, ⟨(some 14), none, (.mov (.t 0)), []⟩, ⟨(some 15), none, (.len false (.t 14)), []⟩, ⟨(some 16), none, (.bin .lss (.t 13) (.t 15)), []⟩]) (.cond (.t 16) .skip (.exit 0))) (.seq (.block 1 (.seq (.reg false [⟨(some 19), none, (.mov (.t 0)), []⟩, ⟨(some 20), none, (.mov (.t 6)), []⟩, ⟨(some 21), none, (.iaddr (.t 19) (.t 20) 6), []⟩, ⟨(some 22), none, (.faddr (.t 21) 4), []⟩, ⟨(some 23), none, (.ld (.t 22) none), []⟩, ⟨(some 24), none, (.call 31 [(.t 23)]), []⟩, ⟨(some 7), none, (.mov (.t 24)), []⟩]) (.seq (.seq (.reg false [⟨(some 25), none, (.mov (.t 0)), []⟩, ⟨(some 26), none, (.mov (.t 6)), []⟩, ⟨(some 27), none, (.iaddr (.t 25) (.t 26) 6), []⟩, ⟨(some 28), none, (.faddr (.t 27) 5), []⟩, ⟨(some 29), none, (.ld (.t 28) none), []⟩]) (.cond (.t 29) (.reg false [⟨(some 30), none, (.mov (.t 0)), []⟩, ⟨(some 31), none, (.mov (.t 6)), []⟩, ⟨(some 32), none, (.iaddr (.t 30) (.t 31) 6), []⟩, ⟨(some 33), none, (.faddr (.t 32) 4), []⟩, ⟨(some 34), none, (.ld (.t 33) none), []⟩, ⟨(some 35), none, (.bin .add (.c (.str [33])) (.t 34)), []⟩, ⟨(some 7), none, (.mov (.t 35)), []⟩]) .skip)) (.reg true [⟨(some 36), none, (.mov (.t 5)), []⟩, ⟨(some 37), none, (.mov (.t 0)), []⟩, ⟨(some 38), none, (.mov (.t 6)), []⟩, ⟨(some 39), none, (.iaddr (.t 37) (.t 38) 6), []⟩, ⟨(some 40), none, (.faddr (.t 39) 0), []⟩, ⟨(some 41), none, (.ld (.t 40) none), []⟩, ⟨(some 42), none, (.call 27 [(.t 41)]), []⟩, ⟨(some 43), none, (.bin .add (.t 42) (.c (.str [32]))), []⟩, ⟨(some 44), none, (.mov (.t 0)), []⟩, ⟨(some 45), none, (.mov (.t 6)), []⟩, ⟨(some 46), none, (.iaddr (.t 44) (.t 45) 6), [6]⟩, ⟨(some 47), none, (.faddr (.t 46) 1), []⟩, ⟨(some 48), none, (.ld (.t 47) none), [6]⟩, ⟨(some 49), none, (.call 27 [(.t 48)]), []⟩, ⟨(some 50), none, (.bin .add (.t 43) (.t 49)), []⟩, ⟨(some 51), none, (.bin .add (.t 50) (.c (.str [32]))), []⟩, ⟨(some 52), none, (.mov (.t 0)), []⟩, ⟨(some 53), none, (.mov (.t 6)), []⟩, ⟨(some 54), none, (.iaddr (.t 52) (.t 53) 6), [6, 13]⟩, ⟨(some 55), none, (.faddr (.t 54) 3), []⟩, ⟨(some 56), none, (.ld (.t 55) none), [6, 13]⟩, ⟨(some 57), none, (.call 31 [(.t 56)]), []⟩, ⟨(some 58), none, (.bin .add (.t 51) (.t 57)), []⟩, ⟨(some 59), none, (.bin .add (.t 58) (.c (.str [32]))), []⟩, ⟨(some 60), none, (.mov (.t 7)), []⟩, ⟨(some 61), none, (.bin .add (.t 59) (.t 60)), []⟩, ⟨(some 62), none, (.bin .add (.t 61) (.c (.str [32]))), []⟩, ⟨(some 63), none, (.mov (.t 0)), []⟩, ⟨(some 64), none, (.mov (.t 6)), []⟩, ⟨(some 65), none, (.iaddr (.t 63) (.t 64) 6), [6, 13, 21]⟩, ⟨(some 66), none, (.faddr (.t 65) 2), []⟩, ⟨(some 67), none, (.ld (.t 66) none), [6, 13, 21]⟩, ⟨(some 68), none, (.bin .add (.t 62) (.t 67)), []⟩, ⟨(some 69), none, (.bin .add (.t 68) (.c (.str [10]))), []⟩, ⟨(some 70), none, (.bin .add (.t 36) (.t 69)), []⟩, ⟨(some 5), none, (.mov (.t 70)), []⟩])))) (.reg false [⟨(some 17), none, (.mov (.t 6)), []⟩, ⟨(some 18), none, (.bin .add (.t 17) (.c (.int .i64 1))), []⟩, ⟨(some 6), none, (.mov (.t 18)), []⟩])))
def c13 : Cmd := (.seq (.reg false [⟨(some 2), none, (.mov (.c (.str []))), []⟩, ⟨(some 3), none, (.mov (.c (.int .i64 0))), []⟩]) (.seq (.seq (.reg false [⟨(some 8), none, (.mov (.t 0)), []⟩, ⟨(some 9), none, (.call 30 [(.t 8)]), []⟩, ⟨(some 4), none, (.mov (.t 9)), []⟩]) (.seq (.reg false [⟨(some 10), none, (.mov (.t 4)), []⟩, ⟨(some 11), none, (.bin .neq (.t 10) (.c (.int .i64 0))), []⟩]) (.cond (.t 11) (.seq (.reg false [⟨(some 12), none, (.mov (.t 4)), []⟩, ⟨(some 2), none, (.mov (.c (.str []))), []⟩, ⟨(some 3), none, (.mov (.t 12)), []⟩]) .ret) .skip))) (.seq (.reg false [⟨(some 5), none, (.mov (.c (.str []))), []⟩]) (.seq (.seq (.reg false [⟨(some 6), none, (.mov (.c (.int .i64 0))), []⟩]) (.block 0 (.loop l13_0))) (.seq (.seq (.reg false [⟨(some 71), none, (.mov (.t 5)), []⟩, ⟨(some 72), none, (.len true (.t 71)), []⟩, ⟨(some 73), none, (.bin .gtr (.t 72) (.c (.int .i64 300000))), []⟩]) (.cond (.t 73) (.seq (.reg false [⟨(some 2), none, (.mov (.c (.str []))), []⟩, ⟨(some 3), none, (.mov (.c (.int .i64 2))), []⟩]) .ret) .skip)) (.seq (.reg false [⟨(some 74), none, (.mov (.t 5)), []⟩, ⟨(some 2), none, (.mov (.t 74)), []⟩, ⟨(some 3), none, (.mov (.c (.int .i64 0))), []⟩]) .ret))))))
theorem h13 : compF Tryd.prog sh 13 = some (c13, [2, 3], 75) := by kernel_rfl
def c33 : Cmd := (.seq (.reg false [⟨(some 2), none, (.alloc [(.int .i64 0), (.int .i64 0), (.str []), (.str []), (.str []), (.bool false)]), []⟩, ⟨(some 3), none, (.mov (.c (.bool false))), []⟩]) (.seq (.reg false [⟨(some 12), none, (.mov (.t 0)), []⟩, ⟨(some 13), none, (.call 58 [(.t 12), (.c (.str [32])), (.c (.int .i64 5))]), []⟩, ⟨(some 4), none, (.mov (.t 13)), []⟩]) (.seq (.seq (.reg false [⟨(some 14), none, (.mov (.t 4)), []⟩, ⟨(some 15), none, (.len false (.t 14)), []⟩, ⟨(some 16), none, (.bin .neq (.t 15) (.c (.int .i64 5))), []⟩]) (.cond (.t 16) (.seq (.reg false [⟨(some 17), none, (.bld [(.int .i64 0), (.int .i64 0), (.str []), (.str []), (.str []), (.bool false)] []), []⟩, ⟨none, none, (.st (.t 2) (.t 17) 6), []⟩, ⟨(some 3), none, (.mov (.c (.bool false))), []⟩]) .ret) .skip)) (.seq (.reg false [⟨(some 19), none, (.mov (.t 4)), []⟩, ⟨(some 20), none, (.iaddr (.t 19) (.c (.int .i64 0)) 1), []⟩, ⟨(some 21), none, (.ld (.t 20) none), []⟩, ⟨(some 22), none, (.call 65 [(.t 21), (.c (.int .i64 13))]), []⟩, ⟨(some 18), none, (.mov (.t 22)), []⟩, ⟨(some 23), none, (.ext (.t 18) 0), []⟩, ⟨(some 24), none, (.ext (.t 18) 1), []⟩, ⟨(some 5), none, (.mov (.t 23)), []⟩, ⟨(some 6), none, (.mov (.t 24)), []⟩]) (.seq (.reg false [⟨(some 26), none, (.mov (.t 4)), []⟩, ⟨(some 27), none, (.iaddr (.t 26) (.c (.int .i64 1)) 1), []⟩, ⟨(some 28), none, (.ld (.t 27) none), []⟩, ⟨(some 29), none, (.call 65 [(.t 28), (.c (.int .i64 13))]), []⟩, ⟨(some 25), none, (.mov (.t 29)), []⟩, ⟨(some 30), none, (.ext (.t 25) 0), []⟩, ⟨(some 31), none, (.ext (.t 25) 1), []⟩, ⟨(some 7), none, (.mov (.t 30)), []⟩, ⟨(some 8), none, (.mov (.t 31)), []⟩]) (.seq (.seq (.reg false [⟨(some 32), none, (.mov (.t 6)), []⟩, ⟨(some 33), none, (.un .not (.t 32)), []⟩, ⟨(some 34), none, (.mov (.t 33)), []⟩, ⟨(some 35), (some (34, false)), (.mov (.t 8)), []⟩, ⟨(some 36), (some (34, false)), (.un .not (.t 35)), []⟩, ⟨(some 37), none, (.pick (.t 34) (.c (.bool true)) (.t 36)), []⟩, ⟨(some 38), none, (.mov (.t 37)), []⟩, ⟨(some 39), (some (38, false)), (.mov (.t 4)), []⟩, ⟨(some 40), (some (38, false)), (.iaddr (.t 39) (.c (.int .i64 2)) 1), []⟩, ⟨(some 41), (some (38, false)), (.ld (.t 40) none), []⟩, ⟨(some 42), (some (38, false)), (.call 66 [(.t 41), (.c (.int .u8 33))]), []⟩, ⟨(some 43), (some (38, false)), (.un .not (.t 42)), []⟩, ⟨(some 44), none, (.pick (.t 38) (.c (.bool true)) (.t 43)), []⟩, ⟨(some 45), none, (.mov (.t 44)), []⟩, ⟨(some 46), (some (45, false)), (.mov (.t 4)), []⟩, ⟨(some 47), (some (45, false)), (.iaddr (.t 46) (.c (.int .i64 3)) 1), []⟩, ⟨(some 48), (some (45, false)), (.ld (.t 47) none), []⟩, ⟨(some 49), (some (45, false)), (.call 66 [(.t 48), (.c (.int .u8 33))]), []⟩, ⟨(some 50), (some (45, false)), (.un .not (.t 49)), []⟩, ⟨(some 51), none, (.pick (.t 45) (.c (.bool true)) (.t 50)), []⟩, ⟨(some 52), none, (.mov (.t 51)), []⟩, ⟨(some 53), (some (52, false)), (.mov (.t 4)), []⟩, ⟨(some 54), (some (52, false)), (.iaddr (.t 53) (.c (.int .i64 4)) 1), []⟩, ⟨(some 55), (some (52, false)), (.ld (.t 54) none), []⟩, ⟨(some 56), (some (52, false)), (.call 66 [(.t 55), (.c (.int .u8 32))]), []⟩, ⟨(some 57), (some (52, false)), (.un .not (.t 56)), []⟩, ⟨(some 58), none, (.pick (.t 52) (.c (.bool true)) (.t 57)), []⟩, ⟨(some 59), none, (.mov (.t 58)), []⟩, ⟨(some 60), (some (59, false)), (.mov (.t 4)), []⟩, ⟨(some 61), (some (59, false)), (.iaddr (.t 60) (.c (.int .i64 3)) 1), []⟩, ⟨(some 62), (some (59, false)), (.ld (.t 61) none), []⟩, ⟨(some 63), (some (59, false)), (.bin .eql (.t 62) (.c (.str [33]))), []⟩, ⟨(some 64), none, (.pick (.t 59) (.c (.bool true)) (.t 63)), []⟩]) (.cond (.t 64) (.seq (.reg false [⟨(some 65), none, (.bld [(.int .i64 0), (.int .i64 0), (.str []), (.str []), (.str []), (.bool false)] []), []⟩, ⟨none, none, (.st (.t 2) (.t 65) 6), []⟩, ⟨(some 3), none, (.mov (.c (.bool false))), []⟩]) .ret) .skip)) (.seq (.reg false [⟨(some 66), none, (.mov (.t 5)), []⟩, ⟨(some 67), none, (.mov (.t 7)), []⟩, ⟨(some 68), none, (.mov (.t 4)), []⟩, ⟨(some 69), none, (.iaddr (.t 68) (.c (.int .i64 4)) 1), []⟩, ⟨(some 70), none, (.ld (.t 69) none), []⟩, ⟨(some 71), none, (.bld [(.int .i64 0), (.int .i64 0), (.str []), (.str []), (.str []), (.bool false)] [(0, (1, (.t 66))), (1, (1, (.t 67))), (2, (1, (.t 70)))]), []⟩, ⟨(some 9), none, (.alloc [(.int .i64 0), (.int .i64 0), (.str []), (.str []), (.str []), (.bool false)]), []⟩, ⟨none, none, (.st (.t 9) (.t 71) 6), []⟩]) (.seq (.seq (.reg false [⟨(some 72), none, (.mov (.t 4)), []⟩, ⟨(some 73), none, (.iaddr (.t 72) (.c (.int .i64 2)) 1), []⟩, ⟨(some 74), none, (.ld (.t 73) none), []⟩, ⟨(some 75), none, (.bin .neq (.t 74) (.c (.str [45]))), []⟩]) (.cond (.t 75) (.reg false [⟨(some 76), none, (.mov (.t 4)), []⟩, ⟨(some 77), none, (.iaddr (.t 76) (.c (.int .i64 2)) 1), []⟩, ⟨(some 78), none, (.ld (.t 77) none), []⟩, ⟨(some 79), none, (.faddr (.t 9) 3), []⟩, ⟨none, none, (.st (.t 79) (.t 78) 1), []⟩]) .skip)) (.seq (.reg false [⟨(some 81), none, (.mov (.t 4)), []⟩, ⟨(some 82), none, (.iaddr (.t 81) (.c (.int .i64 3)) 1), []⟩, ⟨(some 83), none, (.ld (.t 82) none), []⟩, ⟨(some 84), none, (.call 20 [(.t 83), (.c (.str [33]))]), []⟩, ⟨(some 80), none, (.mov (.t 84)), []⟩, ⟨(some 85), none, (.ext (.t 80) 0), []⟩, ⟨(some 86), none, (.ext (.t 80) 1), []⟩, ⟨(some 10), none, (.mov (.t 85)), []⟩, ⟨(some 11), none, (.mov (.t 86)), []⟩]) (.seq (.seq (.reg false [⟨(some 87), none, (.mov (.t 11)), []⟩, ⟨(some 88), none, (.mov (.t 87)), []⟩, ⟨(some 89), (some (88, false)), (.mov (.t 10)), []⟩, ⟨(some 90), (some (88, false)), (.bin .neq (.t 89) (.c (.str [45]))), []⟩, ⟨(some 91), none, (.pick (.t 88) (.c (.bool true)) (.t 90)), []⟩]) (.cond (.t 91) (.reg false [⟨(some 92), none, (.mov (.t 10)), []⟩, ⟨(some 93), none, (.mov (.t 11)), []⟩, ⟨(some 94), none, (.faddr (.t 9) 4), []⟩, ⟨none, none, (.st (.t 94) (.t 92) 1), []⟩, ⟨(some 95), none, (.faddr (.t 9) 5), []⟩, ⟨none, none, (.st (.t 95) (.t 93) 1), []⟩]) .skip)) (.seq (.reg false [⟨(some 96), none, (.ld (.t 9) (some 6)), []⟩, ⟨none, none, (.st (.t 2) (.t 96) 6), []⟩, ⟨(some 3), none, (.mov (.c (.bool true))), []⟩]) .ret)))))))))))
theorem h33 : compG Tryd.prog sh 33 = some (c33, [(.cell 2 (some 6)), (.tmp 3)], 97) := by kernel_rfl
def l14_0 : Cmd := (.seq (.seq (.reg false [⟨(some 16), none, (.mov (.t 0)), []⟩, ⟨(some 17), none, (.bin .neq (.t 16) (.c (.str []))), []⟩]) (.cond (.t 17) .skip (.exit 0))) (.seq (.block 1 (.seq (.reg false [⟨(some 21), none, (.mov (.t 0)), []⟩, ⟨(some 22), none, (.call 32 [(.t 21), (.c (.str [10]))]), []⟩, ⟨(some 20), none, (.mov (.t 22)), []⟩, ⟨(some 23), none, (.ext (.t 20) 0), []⟩, ⟨(some 24), none, (.ext (.t 20) 1), []⟩, ⟨(some 25), none, (.ext (.t 20) 2), []⟩, ⟨(some 7), none, (.mov (.t 23)), []⟩, ⟨(some 8), none, (.mov (.t 24)), []⟩, ⟨(some 9), none, (.mov (.t 25)), []⟩]) (.seq (.reg false [⟨(some 27), none, (.mov (.t 7)), []⟩, ⟨(some 28), none, (.call 33 [(.t 27)]), []⟩, ⟨(some 26), none, (.mov (.t 28)), []⟩, ⟨(some 29), none, (.ext (.t 26) 0), []⟩, ⟨(some 30), none, (.ext (.t 26) 1), []⟩, ⟨(some 10), none, (.alloc [(.int .i64 0), (.int .i64 0), (.str []), (.str []), (.str []), (.bool false)]), []⟩, ⟨none, none, (.st (.t 10) (.t 29) 6), []⟩, ⟨(some 11), none, (.mov (.t 30)), []⟩]) (.seq (.seq (.reg false [⟨(some 31), none, (.mov (.t 11)), []⟩, ⟨(some 32), none, (.un .not (.t 31)), []⟩, ⟨(some 33), none, (.mov (.t 32)), []⟩, ⟨(some 34), (some (33, false)), (.mov (.t 9)), []⟩, ⟨(some 35), (some (33, false)), (.un .not (.t 34)), []⟩, ⟨(some 36), none, (.pick (.t 33) (.c (.bool true)) (.t 35)), []⟩]) (.cond (.t 36) (.seq (.reg false [⟨(some 37), none, (.mov (.t 6)), []⟩, ⟨(some 2), none, (.mov (.c .ns)), []⟩, ⟨(some 3), none, (.mov (.t 37)), []⟩, ⟨(some 4), none, (.mov (.c (.int .i64 10))), []⟩]) .ret) .skip)) (.seq (.reg false [⟨(some 38), none, (.mov (.t 5)), []⟩, ⟨(some 39), none, (.ld (.t 10) (some 6)), []⟩, ⟨(some 40), none, (.bs 1 6 [(.int .i64 0), (.int .i64 0), (.str []), (.str []), (.str []), (.bool false)] [(0, (.t 39))]), []⟩, ⟨(some 41), none, (.app 6 72 (.t 38) (.t 40)), []⟩, ⟨(some 5), none, (.mov (.t 41)), []⟩]) (.reg false [⟨(some 42), none, (.mov (.t 8)), []⟩, ⟨(some 0), none, (.mov (.t 42)), []⟩])))))) (.reg false [⟨(some 18), none, (.mov (.t 6)), []⟩, ⟨(some 19), none, (.bin .add (.t 18) (.c (.int .i64 1))), []⟩, ⟨(some 6), none, (.mov (.t 19)), []⟩])))
def c14 : Cmd := (.seq (.reg false [⟨(some 2), none, (.mov (.c .ns)), []⟩, ⟨(some 3), none, (.mov (.c (.int .i64 0))), []⟩, ⟨(some 4), none, (.mov (.c (.int .i64 0))), []⟩]) (.seq (.seq (.reg false [⟨(some 13), none, (.mov (.t 0)), []⟩, ⟨(some 14), none, (.len true (.t 13)), []⟩, ⟨(some 15), none, (.bin .gtr (.t 14) (.c (.int .i64 300000))), []⟩]) (.cond (.t 15) (.seq (.reg false [⟨(some 2), none, (.mov (.c .ns)), []⟩, ⟨(some 3), none, (.mov (.c (.int .i64 0))), []⟩, ⟨(some 4), none, (.mov (.c (.int .i64 2))), []⟩]) .ret) .skip)) (.seq (.reg false [⟨(some 5), none, (.mov (.c .ns)), []⟩]) (.seq (.seq (.reg false [⟨(some 6), none, (.mov (.c (.int .i64 1))), []⟩]) (.block 0 (.loop l14_0))) (.seq (.seq (.reg false [⟨(some 43), none, (.mov (.t 5)), []⟩, ⟨(some 44), none, (.call 30 [(.t 43)]), []⟩, ⟨(some 12), none, (.mov (.t 44)), []⟩]) (.seq (.reg false [⟨(some 45), none, (.mov (.t 12)), []⟩, ⟨(some 46), none, (.bin .neq (.t 45) (.c (.int .i64 0))), []⟩]) (.cond (.t 46) (.seq (.reg false [⟨(some 47), none, (.mov (.t 12)), []⟩, ⟨(some 2), none, (.mov (.c .ns)), []⟩, ⟨(some 3), none, (.mov (.c (.int .i64 0))), []⟩, ⟨(some 4), none, (.mov (.t 47)), []⟩]) .ret) .skip))) (.seq (.reg false [⟨(some 48), none, (.mov (.t 5)), []⟩, ⟨(some 2), none, (.mov (.t 48)), []⟩, ⟨(some 3), none, (.mov (.c (.int .i64 0))), []⟩, ⟨(some 4), none, (.mov (.c (.int .i64 0))), []⟩]) .ret))))))
theorem h14 : compF Tryd.prog sh 14 = some (c14, [2, 3, 4], 49) := by kernel_rfl
def c16 : Cmd := (.seq (.reg false [⟨(some 1), none, (.box (.t 0)), []⟩, ⟨(some 2), none, (.mov (.c (.str []))), []⟩]) (.seq (.seq (.reg false [⟨(some 3), none, (.faddr (.t 1) 0), []⟩, ⟨(some 4), none, (.ld (.t 3) none), []⟩]) (.block 0 (.seq (.reg false [⟨(some 6), none, (.bin .eql (.t 4) (.c (.int .i64 1))), []⟩, ⟨(some 5), none, (.mov (.t 6)), []⟩]) (.cond (.t 5) (.seq (.reg false [⟨(some 7), none, (.faddr (.t 1) 1), []⟩, ⟨(some 8), none, (.ld (.t 7) none), []⟩, ⟨(some 9), none, (.bin .add (.c (.str [115, 101, 110, 100, 32])) (.t 8)), []⟩, ⟨(some 2), none, (.mov (.t 9)), []⟩]) .ret) (.seq (.reg false [⟨(some 11), none, (.bin .eql (.t 4) (.c (.int .i64 2))), []⟩, ⟨(some 10), none, (.mov (.t 11)), []⟩]) (.cond (.t 10) (.seq (.reg false [⟨(some 12), none, (.faddr (.t 1) 3), []⟩, ⟨(some 13), none, (.ld (.t 12) none), []⟩, ⟨(some 14), none, (.call 27 [(.t 13)]), []⟩, ⟨(some 15), none, (.bin .add (.c (.str [119, 97, 105, 116, 32])) (.t 14)), []⟩, ⟨(some 2), none, (.mov (.t 15)), []⟩]) .ret) (.seq (.reg false [⟨(some 17), none, (.bin .eql (.t 4) (.c (.int .i64 3))), []⟩, ⟨(some 16), none, (.mov (.t 17)), []⟩]) (.cond (.t 16) (.seq (.reg true [⟨(some 18), none, (.faddr (.t 1) 1), []⟩, ⟨(some 19), none, (.ld (.t 18) none), []⟩, ⟨(some 20), none, (.bin .add (.c (.str [97, 119, 97, 105, 116, 32])) (.t 19)), []⟩, ⟨(some 21), none, (.bin .add (.t 20) (.c (.str [32]))), []⟩, ⟨(some 22), none, (.faddr (.t 1) 3), []⟩, ⟨(some 23), none, (.ld (.t 22) none), []⟩, ⟨(some 24), none, (.call 27 [(.t 23)]), [1]⟩, ⟨(some 25), none, (.bin .add (.t 21) (.t 24)), []⟩, ⟨(some 26), none, (.bin .add (.t 25) (.c (.str [32]))), []⟩, ⟨(some 27), none, (.faddr (.t 1) 2), []⟩, ⟨(some 28), none, (.ld (.t 27) none), [6]⟩, ⟨(some 29), none, (.bin .add (.t 26) (.t 28)), []⟩, ⟨(some 2), none, (.mov (.t 29)), []⟩]) .ret) (.seq (.reg false [⟨(some 31), none, (.bin .eql (.t 4) (.c (.int .i64 4))), []⟩, ⟨(some 30), none, (.mov (.t 31)), []⟩]) (.cond (.t 30) (.seq (.seq (.reg false [⟨(some 32), none, (.faddr (.t 1) 4), []⟩, ⟨(some 33), none, (.ld (.t 32) none), []⟩]) (.cond (.t 33) (.seq (.reg false [⟨(some 34), none, (.faddr (.t 1) 1), []⟩, ⟨(some 35), none, (.ld (.t 34) none), []⟩, ⟨(some 36), none, (.bin .add (.c (.str [117, 110, 108, 101, 115, 115, 32])) (.t 35)), []⟩, ⟨(some 37), none, (.bin .add (.t 36) (.c (.str [32]))), []⟩, ⟨(some 38), none, (.faddr (.t 1) 2), []⟩, ⟨(some 39), none, (.ld (.t 38) none), []⟩, ⟨(some 40), none, (.bin .add (.t 37) (.t 39)), []⟩, ⟨(some 2), none, (.mov (.t 40)), []⟩]) .ret) .skip)) (.seq (.reg false [⟨(some 41), none, (.faddr (.t 1) 1), []⟩, ⟨(some 42), none, (.ld (.t 41) none), []⟩, ⟨(some 43), none, (.bin .add (.c (.str [105, 102, 32])) (.t 42)), []⟩, ⟨(some 44), none, (.bin .add (.t 43) (.c (.str [32]))), []⟩, ⟨(some 45), none, (.faddr (.t 1) 2), []⟩, ⟨(some 46), none, (.ld (.t 45) none), []⟩, ⟨(some 47), none, (.bin .add (.t 44) (.t 46)), []⟩, ⟨(some 2), none, (.mov (.t 47)), []⟩]) .ret)) (.seq (.reg false [⟨(some 49), none, (.bin .eql (.t 4) (.c (.int .i64 5))), []⟩, ⟨(some 48), none, (.mov (.t 49)), []⟩]) (.cond (.t 48) (.seq (.reg false [⟨(some 50), none, (.faddr (.t 1) 2), []⟩, ⟨(some 51), none, (.ld (.t 50) none), []⟩, ⟨(some 52), none, (.bin .add (.c (.str [103, 111, 32])) (.t 51)), []⟩, ⟨(some 2), none, (.mov (.t 52)), []⟩]) .ret) (.seq (.reg false [⟨(some 54), none, (.bin .eql (.t 4) (.c (.int .i64 6))), []⟩, ⟨(some 53), none, (.mov (.t 54)), []⟩]) (.cond (.t 53) (.seq (.reg false [⟨(some 55), none, (.faddr (.t 1) 1), []⟩, ⟨(some 56), none, (.ld (.t 55) none), []⟩, ⟨(some 57), none, (.bin .add (.c (.str [99, 97, 108, 108, 32])) (.t 56)), []⟩, ⟨(some 2), none, (.mov (.t 57)), []⟩]) .ret) (.seq (.reg false [⟨(some 59), none, (.bin .eql (.t 4) (.c (.int .i64 8))), []⟩, ⟨(some 58), none, (.mov (.t 59)), []⟩]) (.cond (.t 58) (.seq (.reg false [⟨(some 60), none, (.faddr (.t 1) 2), []⟩, ⟨(some 61), none, (.ld (.t 60) none), []⟩, ⟨(some 62), none, (.bin .add (.c (.str [108, 97, 98, 101, 108, 32])) (.t 61)), []⟩, ⟨(some 2), none, (.mov (.t 62)), []⟩]) .ret) .skip)))))))))))))))) (.seq (.reg false [⟨(some 2), none, (.mov (.c (.str [101, 110, 100]))), []⟩]) .ret)))
theorem h16 : compF Tryd.prog sh 16 = some (c16, [2], 63) := by kernel_rfl
def k6_0 : Cmd := (.block 3 (.seq (.reg false [⟨(some 32), none, (.iaddr (.t 28) (.t 30) 5), []⟩, ⟨(some 33), none, (.ld (.t 32) (some 5)), []⟩, ⟨(some 9), none, (.alloc [(.int .i64 0), (.str []), (.str []), (.int .i64 0), (.bool false)]), []⟩, ⟨none, none, (.st (.t 9) (.t 33) 5), []⟩]) (.reg false [⟨(some 34), none, (.mov (.t 5)), []⟩, ⟨(some 35), none, (.ld (.t 9) (some 5)), []⟩, ⟨(some 36), none, (.call 16 [(.t 35)]), []⟩, ⟨(some 37), none, (.bs 1 1 [(.str [])] [(0, (.t 36))]), []⟩, ⟨(some 38), none, (.app 1 16 (.t 34) (.t 37)), []⟩, ⟨(some 5), none, (.mov (.t 38)), []⟩])))
abbrev l6_0 : Cmd := cnt 2 31 30 29 39 k6_0
def k6_1 : Cmd := (.block 1 (.seq (.reg false [⟨(some 19), none, (.iaddr (.t 15) (.t 17) 2), []⟩, ⟨(some 20), none, (.ld (.t 19) (some 2)), []⟩, ⟨(some 7), none, (.alloc [(.str []), .ns]), []⟩, ⟨none, none, (.st (.t 7) (.t 20) 2), []⟩]) (.seq (.reg false [⟨(some 21), none, (.mov (.t 5)), []⟩, ⟨(some 22), none, (.faddr (.t 7) 0), []⟩, ⟨(some 23), none, (.ld (.t 22) none), []⟩, ⟨(some 24), none, (.bin .add (.c (.str [112, 114, 111, 99, 32])) (.t 23)), []⟩, ⟨(some 25), none, (.bs 1 1 [(.str [])] [(0, (.t 24))]), []⟩, ⟨(some 26), none, (.app 1 16 (.t 21) (.t 25)), []⟩, ⟨(some 5), none, (.mov (.t 26)), []⟩]) (.seq (.reg false [⟨(some 27), none, (.faddr (.t 7) 1), []⟩, ⟨(some 28), none, (.ld (.t 27) none), []⟩, ⟨(some 29), none, (.len false (.t 28)), []⟩, ⟨(some 30), none, (.mov (.c (.int .i64 0))), []⟩]) (.block 2 (.loop l6_0))))))
abbrev l6_1 : Cmd := cnt 0 18 17 16 40 k6_1
def c6 : Cmd := (.seq (.reg false [⟨(some 2), none, (.mov (.c (.str []))), []⟩, ⟨(some 3), none, (.mov (.c (.int .i64 0))), []⟩]) (.seq (.seq (.reg false [⟨(some 10), none, (.mov (.t 0)), []⟩, ⟨(some 11), none, (.call 15 [(.t 10)]), []⟩, ⟨(some 4), none, (.mov (.t 11)), []⟩]) (.seq (.reg false [⟨(some 12), none, (.mov (.t 4)), []⟩, ⟨(some 13), none, (.bin .neq (.t 12) (.c (.int .i64 0))), []⟩]) (.cond (.t 13) (.seq (.reg false [⟨(some 14), none, (.mov (.t 4)), []⟩, ⟨(some 2), none, (.mov (.c (.str []))), []⟩, ⟨(some 3), none, (.mov (.t 14)), []⟩]) .ret) .skip))) (.seq (.reg false [⟨(some 5), none, (.mov (.c .ns)), []⟩]) (.seq (.seq (.reg false [⟨(some 15), none, (.mov (.t 0)), []⟩, ⟨(some 16), none, (.len false (.t 15)), []⟩, ⟨(some 17), none, (.mov (.c (.int .i64 0))), []⟩]) (.block 0 (.loop l6_1))) (.seq (.reg false [⟨(some 41), none, (.mov (.t 5)), []⟩, ⟨(some 42), none, (.call 17 [(.t 41)]), []⟩, ⟨(some 43), none, (.ext (.t 42) 0), []⟩, ⟨(some 44), none, (.ext (.t 42) 1), []⟩, ⟨(some 2), none, (.mov (.t 43)), []⟩, ⟨(some 3), none, (.mov (.t 44)), []⟩]) .ret)))))
theorem h6 : compF Tryd.prog sh 6 = some (c6, [2, 3], 45) := by kernel_rfl
def k22_0 : Cmd := (.block 1 (.seq (.reg false [⟨(some 40), none, (.iaddr (.t 36) (.t 38) 3), []⟩, ⟨(some 41), none, (.ld (.t 40) (some 3)), []⟩, ⟨(some 9), none, (.alloc [(.str []), (.int .i64 0), (.int .i64 0)]), []⟩, ⟨none, none, (.st (.t 9) (.t 41) 3), []⟩]) (.seq (.seq (.reg true [⟨(some 42), none, (.mov (.t 6)), []⟩, ⟨(some 43), none, (.iaddr (.t 42) (.c (.int .i64 0)) 1), []⟩, ⟨(some 44), none, (.ld (.t 43) none), []⟩, ⟨(some 45), none, (.faddr (.t 9) 0), []⟩, ⟨(some 46), none, (.ld (.t 45) none), []⟩, ⟨(some 47), none, (.bin .neq (.t 44) (.t 46)), []⟩, ⟨(some 48), none, (.mov (.t 47)), []⟩, ⟨(some 49), (some (48, false)), (.mov (.t 6)), []⟩, ⟨(some 50), (some (48, false)), (.len false (.t 49)), []⟩, ⟨(some 51), (some (48, false)), (.faddr (.t 9) 1), []⟩, ⟨(some 52), (some (48, false)), (.ld (.t 51) none), []⟩, ⟨(some 53), (some (48, false)), (.bin .neq (.t 50) (.t 52)), []⟩, ⟨(some 54), none, (.pick (.t 48) (.c (.bool true)) (.t 53)), []⟩]) (.cond (.t 54) (.exit 1) .skip)) (.seq (.reg false [⟨(some 55), none, (.faddr (.t 9) 2), []⟩, ⟨(some 56), none, (.ld (.t 55) none), []⟩, ⟨(some 57), none, (.faddr (.t 9) 0), []⟩, ⟨(some 58), none, (.ld (.t 57) none), []⟩, ⟨(some 59), none, (.bin .eql (.t 58) (.c (.str [117, 110, 108, 101, 115, 115]))), []⟩, ⟨(some 60), none, (.bld [(.int .i64 0), (.str []), (.str []), (.int .i64 0), (.bool false)] [(0, (1, (.t 56))), (4, (1, (.t 59)))]), []⟩, ⟨(some 10), none, (.alloc [(.int .i64 0), (.str []), (.str []), (.int .i64 0), (.bool false)]), []⟩, ⟨none, none, (.st (.t 10) (.t 60) 5), []⟩, ⟨(some 11), none, (.mov (.c (.bool true))), []⟩]) (.seq (.seq (.reg false [⟨(some 61), none, (.faddr (.t 9) 2), []⟩, ⟨(some 62), none, (.ld (.t 61) none), []⟩]) (.block 2 (.seq (.reg false [⟨(some 64), none, (.bin .eql (.t 62) (.c (.int .i64 2))), []⟩, ⟨(some 63), none, (.mov (.t 64)), []⟩]) (.cond (.t 63) (.reg false [⟨(some 66), none, (.mov (.t 6)), []⟩, ⟨(some 67), none, (.iaddr (.t 66) (.c (.int .i64 1)) 1), []⟩, ⟨(some 68), none, (.ld (.t 67) none), []⟩, ⟨(some 69), none, (.call 46 [(.t 68), (.c (.int .i64 13))]), []⟩, ⟨(some 65), none, (.mov (.t 69)), []⟩, ⟨(some 70), none, (.ext (.t 65) 0), []⟩, ⟨(some 71), none, (.ext (.t 65) 1), []⟩, ⟨(some 72), none, (.faddr (.t 10) 3), []⟩, ⟨none, none, (.st (.t 72) (.t 70) 1), []⟩, ⟨(some 11), none, (.mov (.t 71)), []⟩]) (.seq (.reg false [⟨(some 74), none, (.bin .eql (.t 62) (.c (.int .i64 3))), []⟩, ⟨(some 73), none, (.mov (.t 74)), []⟩]) (.cond (.t 73) (.seq (.reg true [⟨(some 75), none, (.mov (.t 6)), []⟩, ⟨(some 76), none, (.iaddr (.t 75) (.c (.int .i64 1)) 1), []⟩, ⟨(some 77), none, (.ld (.t 76) none), []⟩, ⟨(some 78), none, (.mov (.t 6)), []⟩, ⟨(some 79), none, (.iaddr (.t 78) (.c (.int .i64 3)) 1), []⟩, ⟨(some 80), none, (.ld (.t 79) none), []⟩, ⟨(some 81), none, (.faddr (.t 10) 1), []⟩, ⟨none, none, (.st (.t 81) (.t 77) 1), [4, 5]⟩, ⟨(some 82), none, (.faddr (.t 10) 2), []⟩, ⟨none, none, (.st (.t 82) (.t 80) 1), []⟩]) (.reg false [⟨(some 84), none, (.mov (.t 6)), []⟩, ⟨(some 85), none, (.iaddr (.t 84) (.c (.int .i64 2)) 1), []⟩, ⟨(some 86), none, (.ld (.t 85) none), []⟩, ⟨(some 87), none, (.call 46 [(.t 86), (.c (.int .i64 13))]), []⟩, ⟨(some 83), none, (.mov (.t 87)), []⟩, ⟨(some 88), none, (.ext (.t 83) 0), []⟩, ⟨(some 89), none, (.ext (.t 83) 1), []⟩, ⟨(some 90), none, (.faddr (.t 10) 3), []⟩, ⟨none, none, (.st (.t 90) (.t 88) 1), []⟩, ⟨(some 11), none, (.mov (.t 89)), []⟩])) (.seq (.reg false [⟨(some 92), none, (.bin .eql (.t 62) (.c (.int .i64 4))), []⟩, ⟨(some 91), none, (.mov (.t 92)), []⟩]) (.cond (.t 91) (.reg true [⟨(some 93), none, (.mov (.t 6)), []⟩, ⟨(some 94), none, (.iaddr (.t 93) (.c (.int .i64 1)) 1), []⟩, ⟨(some 95), none, (.ld (.t 94) none), []⟩, ⟨(some 96), none, (.mov (.t 6)), []⟩, ⟨(some 97), none, (.iaddr (.t 96) (.c (.int .i64 2)) 1), []⟩, ⟨(some 98), none, (.ld (.t 97) none), []⟩, ⟨(some 99), none, (.faddr (.t 10) 1), []⟩, ⟨none, none, (.st (.t 99) (.t 95) 1), [4, 5]⟩, ⟨(some 100), none, (.faddr (.t 10) 2), []⟩, ⟨none, none, (.st (.t 100) (.t 98) 1), []⟩]) (.seq (.seq (.reg false [⟨(some 102), none, (.bin .eql (.t 62) (.c (.int .i64 5))), []⟩, ⟨(some 101), none, (.mov (.t 102)), []⟩]) (.cond (.t 101) .skip (.reg false [⟨(some 103), none, (.bin .eql (.t 62) (.c (.int .i64 8))), []⟩, ⟨(some 101), none, (.mov (.t 103)), []⟩]))) (.cond (.t 101) (.reg false [⟨(some 104), none, (.mov (.t 6)), []⟩, ⟨(some 105), none, (.iaddr (.t 104) (.c (.int .i64 1)) 1), []⟩, ⟨(some 106), none, (.ld (.t 105) none), []⟩, ⟨(some 107), none, (.faddr (.t 10) 2), []⟩, ⟨none, none, (.st (.t 107) (.t 106) 1), []⟩]) (.seq (.reg false [⟨(some 109), none, (.bin .eql (.t 62) (.c (.int .i64 6))), []⟩, ⟨(some 108), none, (.mov (.t 109)), []⟩]) (.cond (.t 108) (.reg false [⟨(some 110), none, (.mov (.t 6)), []⟩, ⟨(some 111), none, (.iaddr (.t 110) (.c (.int .i64 1)) 1), []⟩, ⟨(some 112), none, (.ld (.t 111) none), []⟩, ⟨(some 113), none, (.faddr (.t 10) 1), []⟩, ⟨none, none, (.st (.t 113) (.t 112) 1), []⟩]) .skip)))))))))))) (.seq (.reg false [⟨(some 114), none, (.ld (.t 10) (some 5)), []⟩, ⟨(some 115), none, (.mov (.t 11)), []⟩, ⟨none, none, (.st (.t 2) (.t 114) 5), []⟩, ⟨(some 3), none, (.mov (.t 115)), []⟩]) .ret))))))
abbrev l22_0 : Cmd := cnt 0 39 38 37 116 k22_0
def c22 : Cmd := (.seq (.reg false [⟨(some 2), none, (.alloc [(.int .i64 0), (.str []), (.str []), (.int .i64 0), (.bool false)]), []⟩, ⟨(some 3), none, (.mov (.c (.bool false))), []⟩]) (.seq (.seq (.reg false [⟨(some 13), none, (.mov (.t 0)), []⟩, ⟨(some 14), none, (.call 20 [(.t 13), (.c (.str [115, 101, 110, 100, 32]))]), []⟩, ⟨(some 12), none, (.mov (.t 14)), []⟩, ⟨(some 15), none, (.ext (.t 12) 0), []⟩, ⟨(some 16), none, (.ext (.t 12) 1), []⟩, ⟨(some 4), none, (.mov (.t 15)), []⟩, ⟨(some 5), none, (.mov (.t 16)), []⟩]) (.seq (.reg false [⟨(some 17), none, (.mov (.t 5)), []⟩]) (.cond (.t 17) (.seq (.reg false [⟨(some 18), none, (.mov (.t 4)), []⟩, ⟨(some 19), none, (.bld [(.int .i64 0), (.str []), (.str []), (.int .i64 0), (.bool false)] [(0, (1, (.c (.int .i64 1)))), (1, (1, (.t 18)))]), []⟩, ⟨(some 20), none, (.mov (.t 4)), []⟩, ⟨(some 21), none, (.call 42 [(.t 20)]), []⟩, ⟨none, none, (.st (.t 2) (.t 19) 5), []⟩, ⟨(some 3), none, (.mov (.t 21)), []⟩]) .ret) .skip))) (.seq (.reg false [⟨(some 22), none, (.mov (.t 0)), []⟩, ⟨(some 23), none, (.call 43 [(.t 22), (.c (.str [32]))]), []⟩, ⟨(some 6), none, (.mov (.t 23)), []⟩]) (.seq (.seq (.reg false [⟨(some 24), none, (.mov (.t 6)), []⟩, ⟨(some 25), none, (.shr 44 [(.t 24), (.c (.fn 45 []))]), []⟩]) (.cond (.t 25) (.seq (.reg false [⟨(some 26), none, (.bld [(.int .i64 0), (.str []), (.str []), (.int .i64 0), (.bool false)] []), []⟩, ⟨none, none, (.st (.t 2) (.t 26) 5), []⟩, ⟨(some 3), none, (.mov (.c (.bool false))), []⟩]) .ret) .skip)) (.seq (.reg false [⟨(some 27), none, (.bld [(.str []), (.int .i64 0), (.int .i64 0)] [(0, (1, (.c (.str [119, 97, 105, 116])))), (1, (1, (.c (.int .i64 2)))), (2, (1, (.c (.int .i64 2))))]), []⟩, ⟨(some 28), none, (.bld [(.str []), (.int .i64 0), (.int .i64 0)] [(0, (1, (.c (.str [97, 119, 97, 105, 116])))), (1, (1, (.c (.int .i64 4)))), (2, (1, (.c (.int .i64 3))))]), []⟩, ⟨(some 29), none, (.bld [(.str []), (.int .i64 0), (.int .i64 0)] [(0, (1, (.c (.str [105, 102])))), (1, (1, (.c (.int .i64 3)))), (2, (1, (.c (.int .i64 4))))]), []⟩, ⟨(some 30), none, (.bld [(.str []), (.int .i64 0), (.int .i64 0)] [(0, (1, (.c (.str [117, 110, 108, 101, 115, 115])))), (1, (1, (.c (.int .i64 3)))), (2, (1, (.c (.int .i64 4))))]), []⟩, ⟨(some 31), none, (.bld [(.str []), (.int .i64 0), (.int .i64 0)] [(0, (1, (.c (.str [103, 111])))), (1, (1, (.c (.int .i64 2)))), (2, (1, (.c (.int .i64 5))))]), []⟩, ⟨(some 32), none, (.bld [(.str []), (.int .i64 0), (.int .i64 0)] [(0, (1, (.c (.str [99, 97, 108, 108])))), (1, (1, (.c (.int .i64 2)))), (2, (1, (.c (.int .i64 6))))]), []⟩, ⟨(some 33), none, (.bld [(.str []), (.int .i64 0), (.int .i64 0)] [(0, (1, (.c (.str [101, 110, 100])))), (1, (1, (.c (.int .i64 1)))), (2, (1, (.c (.int .i64 7))))]), []⟩, ⟨(some 34), none, (.bld [(.str []), (.int .i64 0), (.int .i64 0)] [(0, (1, (.c (.str [108, 97, 98, 101, 108])))), (1, (1, (.c (.int .i64 2)))), (2, (1, (.c (.int .i64 8))))]), []⟩, ⟨(some 35), none, (.bs 8 3 [(.str []), (.int .i64 0), (.int .i64 0)] [(0, (.t 27)), (1, (.t 28)), (2, (.t 29)), (3, (.t 30)), (4, (.t 31)), (5, (.t 32)), (6, (.t 33)), (7, (.t 34))]), []⟩, ⟨(some 7), none, (.mov (.t 35)), []⟩]) (.seq (.seq (.reg false [⟨(some 36), none, (.mov (.t 7)), []⟩, ⟨(some 37), none, (.len false (.t 36)), []⟩, ⟨(some 38), none, (.mov (.c (.int .i64 0))), []⟩]) (.block 0 (.loop l22_0))) (.seq (.reg false [⟨(some 117), none, (.bld [(.int .i64 0), (.str []), (.str []), (.int .i64 0), (.bool false)] []), []⟩, ⟨none, none, (.st (.t 2) (.t 117) 5), []⟩, ⟨(some 3), none, (.mov (.c (.bool false))), []⟩]) .ret)))))))
theorem h22 : compG Tryd.prog sh 22 = some (c22, [(.cell 2 (some 5)), (.tmp 3)], 118) := by kernel_rfl
def c45 : Cmd := (.seq (.reg false [⟨(some 2), none, (.mov (.c (.bool false))), []⟩]) (.seq (.reg false [⟨(some 3), none, (.mov (.t 0)), []⟩, ⟨(some 4), none, (.call 21 [(.t 3)]), []⟩, ⟨(some 5), none, (.un .not (.t 4)), []⟩, ⟨(some 2), none, (.mov (.t 5)), []⟩]) .ret))
theorem h45 : compF Tryd.prog sh 45 = some (c45, [2], 6) := by kernel_rfl
def c44 : Cmd := (.seq (.reg false [⟨(some 4), none, (.mov (.c (.bool false))), []⟩]) (.seq (.reg false [⟨(some 5), none, (.mov (.t 0)), []⟩, ⟨(some 6), none, (.mov (.t 1)), []⟩, ⟨(some 7), none, (.shr 76 [(.t 5), (.t 6)]), []⟩, ⟨(some 8), none, (.bin .geq (.t 7) (.c (.int .i64 0))), []⟩, ⟨(some 4), none, (.mov (.t 8)), []⟩]) .ret))
theorem h44 : compF Tryd.prog sh 44 = some (c44, [4], 9) := by kernel_rfl
def k76_0 : Cmd := (.block 1 (.seq (.reg false [⟨(some 10), none, (.mov (.t 8)), []⟩, ⟨(some 5), none, (.mov (.t 10)), []⟩]) (.seq (.reg false [⟨(some 11), none, (.mov (.t 1)), []⟩, ⟨(some 12), none, (.mov (.t 0)), []⟩, ⟨(some 13), none, (.mov (.t 5)), []⟩, ⟨(some 14), none, (.iaddr (.t 12) (.t 13) 1), []⟩, ⟨(some 15), none, (.ld (.t 14) none), []⟩, ⟨(some 16), none, (.calv (.t 11) [(.t 15)]), []⟩]) (.cond (.t 16) (.seq (.reg false [⟨(some 17), none, (.mov (.t 5)), []⟩, ⟨(some 4), none, (.mov (.t 17)), []⟩]) .ret) .skip))))
abbrev l76_0 : Cmd := cnt 0 9 8 7 18 k76_0
def c76 : Cmd := (.seq (.reg false [⟨(some 4), none, (.mov (.c (.int .i64 0))), []⟩]) (.seq (.seq (.reg false [⟨(some 6), none, (.mov (.t 0)), []⟩, ⟨(some 7), none, (.len false (.t 6)), []⟩, ⟨(some 8), none, (.mov (.c (.int .i64 0))), []⟩]) (.block 0 (.loop l76_0))) (.seq (.reg false [⟨(some 4), none, (.mov (.c (.int .i64 (-1)))), []⟩]) .ret)))
theorem h76 : compF Tryd.prog sh 76 = some (c76, [4], 19) := by kernel_rfl
def c7 : Cmd := (.seq (.reg false [⟨(some 2), none, (.mov (.c .ns)), []⟩, ⟨(some 3), none, (.mov (.c (.int .i64 0))), []⟩, ⟨(some 4), none, (.mov (.c (.int .i64 0))), []⟩]) (.seq (.seq (.reg false [⟨(some 8), none, (.mov (.t 0)), []⟩, ⟨(some 9), none, (.len true (.t 8)), []⟩, ⟨(some 10), none, (.bin .gtr (.t 9) (.c (.int .i64 300000))), []⟩]) (.cond (.t 10) (.seq (.reg false [⟨(some 2), none, (.mov (.c .ns)), []⟩, ⟨(some 3), none, (.mov (.c (.int .i64 0))), []⟩, ⟨(some 4), none, (.mov (.c (.int .i64 2))), []⟩]) .ret) .skip)) (.seq (.reg false [⟨(some 5), none, (.alloc [.ns]), []⟩]) (.seq (.reg false [⟨(some 11), none, (.mov (.t 0)), []⟩, ⟨(some 12), none, (.fnc 19 [(.t 5)]), []⟩, ⟨(some 13), none, (.shr 18 [(.t 11), (.t 12)]), []⟩, ⟨(some 6), none, (.mov (.t 13)), []⟩]) (.seq (.seq (.reg false [⟨(some 14), none, (.mov (.t 6)), []⟩, ⟨(some 15), none, (.bin .gtr (.t 14) (.c (.int .i64 0))), []⟩]) (.cond (.t 15) (.seq (.reg false [⟨(some 16), none, (.mov (.t 6)), []⟩, ⟨(some 2), none, (.mov (.c .ns)), []⟩, ⟨(some 3), none, (.mov (.t 16)), []⟩, ⟨(some 4), none, (.mov (.c (.int .i64 10))), []⟩]) .ret) .skip)) (.seq (.seq (.reg false [⟨(some 17), none, (.ld (.t 5) none), []⟩, ⟨(some 18), none, (.call 15 [(.t 17)]), []⟩, ⟨(some 7), none, (.mov (.t 18)), []⟩]) (.seq (.reg false [⟨(some 19), none, (.mov (.t 7)), []⟩, ⟨(some 20), none, (.bin .neq (.t 19) (.c (.int .i64 0))), []⟩]) (.cond (.t 20) (.seq (.reg false [⟨(some 21), none, (.mov (.t 7)), []⟩, ⟨(some 2), none, (.mov (.c .ns)), []⟩, ⟨(some 3), none, (.mov (.c (.int .i64 0))), []⟩, ⟨(some 4), none, (.mov (.t 21)), []⟩]) .ret) .skip))) (.seq (.reg false [⟨(some 22), none, (.ld (.t 5) none), []⟩, ⟨(some 2), none, (.mov (.t 22)), []⟩, ⟨(some 3), none, (.mov (.c (.int .i64 0))), []⟩, ⟨(some 4), none, (.mov (.c (.int .i64 0))), []⟩]) .ret)))))))
theorem h7 : compF Tryd.prog sh 7 = some (c7, [2, 3, 4], 23) := by kernel_rfl
def c19 : Cmd := (.seq (.reg false [⟨(some 3), none, (.mov (.c (.bool false))), []⟩]) (.seq (.seq (.reg false [⟨(some 10), none, (.mov (.t 0)), []⟩, ⟨(some 11), none, (.call 20 [(.t 10), (.c (.str [112, 114, 111, 99, 32]))]), []⟩, ⟨(some 9), none, (.mov (.t 11)), []⟩, ⟨(some 12), none, (.ext (.t 9) 0), []⟩, ⟨(some 13), none, (.ext (.t 9) 1), []⟩, ⟨(some 4), none, (.mov (.t 12)), []⟩, ⟨(some 5), none, (.mov (.t 13)), []⟩]) (.seq (.reg false [⟨(some 14), none, (.mov (.t 5)), []⟩]) (.cond (.t 14) (.seq (.reg false [⟨(some 15), none, (.ld (.t 1) none), []⟩, ⟨(some 16), none, (.mov (.t 4)), []⟩, ⟨(some 17), none, (.bld [(.str []), .ns] [(0, (1, (.t 16)))]), []⟩, ⟨(some 18), none, (.bs 1 2 [(.str []), .ns] [(0, (.t 17))]), []⟩, ⟨(some 19), none, (.app 2 40 (.t 15) (.t 18)), []⟩, ⟨none, none, (.st (.t 1) (.t 19) 1), []⟩]) (.seq (.reg false [⟨(some 20), none, (.mov (.t 4)), []⟩, ⟨(some 21), none, (.call 21 [(.t 20)]), []⟩, ⟨(some 3), none, (.mov (.t 21)), []⟩]) .ret)) .skip))) (.seq (.seq (.reg false [⟨(some 22), none, (.ld (.t 1) none), []⟩, ⟨(some 23), none, (.len false (.t 22)), []⟩, ⟨(some 24), none, (.bin .eql (.t 23) (.c (.int .i64 0))), []⟩]) (.cond (.t 24) (.seq (.reg false [⟨(some 3), none, (.mov (.c (.bool false))), []⟩]) .ret) .skip)) (.seq (.reg false [⟨(some 26), none, (.mov (.t 0)), []⟩, ⟨(some 27), none, (.call 22 [(.t 26)]), []⟩, ⟨(some 25), none, (.mov (.t 27)), []⟩, ⟨(some 28), none, (.ext (.t 25) 0), []⟩, ⟨(some 29), none, (.ext (.t 25) 1), []⟩, ⟨(some 6), none, (.alloc [(.int .i64 0), (.str []), (.str []), (.int .i64 0), (.bool false)]), []⟩, ⟨none, none, (.st (.t 6) (.t 28) 5), []⟩, ⟨(some 7), none, (.mov (.t 29)), []⟩]) (.seq (.reg false [⟨(some 30), none, (.ld (.t 1) none), []⟩, ⟨(some 31), none, (.len false (.t 30)), []⟩, ⟨(some 32), none, (.bin .sub (.t 31) (.c (.int .i64 1))), []⟩, ⟨(some 8), none, (.mov (.t 32)), []⟩]) (.seq (.reg true [⟨(some 33), none, (.ld (.t 1) none), []⟩, ⟨(some 34), none, (.mov (.t 8)), []⟩, ⟨(some 35), none, (.ld (.t 1) none), []⟩, ⟨(some 36), none, (.mov (.t 8)), []⟩, ⟨(some 37), none, (.iaddr (.t 35) (.t 36) 2), []⟩, ⟨(some 38), none, (.faddr (.t 37) 1), []⟩, ⟨(some 39), none, (.ld (.t 38) none), []⟩, ⟨(some 40), none, (.ld (.t 6) (some 5)), []⟩, ⟨(some 41), none, (.bs 1 5 [(.int .i64 0), (.str []), (.str []), (.int .i64 0), (.bool false)] [(0, (.t 40))]), [0, 2, 4, 6]⟩, ⟨(some 42), none, (.app 5 56 (.t 39) (.t 41)), [0]⟩, ⟨(some 43), none, (.iaddr (.t 33) (.t 34) 2), []⟩, ⟨(some 44), none, (.faddr (.t 43) 1), []⟩, ⟨none, none, (.st (.t 44) (.t 42) 1), []⟩]) (.seq (.reg false [⟨(some 45), none, (.mov (.t 7)), []⟩, ⟨(some 3), none, (.mov (.t 45)), []⟩]) .ret)))))))
theorem h19 : compF Tryd.prog sh 19 = some (c19, [3], 46) := by kernel_rfl
def l8_0 : Cmd := (.seq (.seq (.reg false [⟨(some 44), none, (.mov (.t 6)), []⟩, ⟨(some 45), none, (.mov (.t 0)), []⟩, ⟨(some 46), none, (.mov (.t 5)), []⟩, ⟨(some 47), none, (.iaddr (.t 45) (.t 46) 2), []⟩, ⟨(some 48), none, (.faddr (.t 47) 1), []⟩, ⟨(some 49), none, (.ld (.t 48) none), []⟩, ⟨(some 50), none, (.len false (.t 49)), []⟩, ⟨(some 51), none, (.bin .lss (.t 44) (.t 50)), []⟩]) (.cond (.t 51) .skip (.exit 2))) (.seq (.block 3 (.seq (.reg true [⟨(some 54), none, (.mov (.t 0)), []⟩, ⟨(some 55), none, (.mov (.t 5)), []⟩, ⟨(some 56), none, (.iaddr (.t 54) (.t 55) 2), []⟩, ⟨(some 57), none, (.faddr (.t 56) 1), []⟩, ⟨(some 58), none, (.ld (.t 57) none), []⟩, ⟨(some 59), none, (.mov (.t 6)), []⟩, ⟨(some 60), none, (.iaddr (.t 58) (.t 59) 5), []⟩, ⟨(some 61), none, (.ld (.t 60) (some 5)), []⟩, ⟨(some 62), none, (.mov (.t 1)), []⟩, ⟨(some 63), none, (.mov (.t 5)), []⟩, ⟨(some 64), none, (.iaddr (.t 62) (.t 63) 2), []⟩, ⟨(some 65), none, (.faddr (.t 64) 1), []⟩, ⟨(some 66), none, (.ld (.t 65) none), []⟩, ⟨(some 67), none, (.mov (.t 6)), []⟩, ⟨(some 68), none, (.iaddr (.t 66) (.t 67) 5), []⟩, ⟨(some 69), none, (.ld (.t 68) (some 5)), []⟩, ⟨(some 70), none, (.seq true [0, 2, 2, 0, 1] (.t 61) (.t 69)), []⟩]) (.cond (.t 70) (.seq (.reg false [⟨(some 4), none, (.mov (.c (.bool false))), []⟩]) .ret) .skip))) (.reg false [⟨(some 52), none, (.mov (.t 6)), []⟩, ⟨(some 53), none, (.bin .add (.t 52) (.c (.int .i64 1))), []⟩, ⟨(some 6), none, (.mov (.t 53)), []⟩])))
def l8_1 : Cmd := (.seq (.seq (.reg false [⟨(some 12), none, (.mov (.t 5)), []⟩, ⟨(some 13), none, (.mov (.t 0)), []⟩, ⟨(some 14), none, (.len false (.t 13)), []⟩, ⟨(some 15), none, (.bin .lss (.t 12) (.t 14)), []⟩]) (.cond (.t 15) .skip (.exit 0))) (.seq (.block 1 (.seq (.seq (.reg true [⟨(some 18), none, (.mov (.t 0)), []⟩, ⟨(some 19), none, (.mov (.t 5)), []⟩, ⟨(some 20), none, (.iaddr (.t 18) (.t 19) 2), []⟩, ⟨(some 21), none, (.faddr (.t 20) 0), []⟩, ⟨(some 22), none, (.ld (.t 21) none), []⟩, ⟨(some 23), none, (.mov (.t 1)), []⟩, ⟨(some 24), none, (.mov (.t 5)), []⟩, ⟨(some 25), none, (.iaddr (.t 23) (.t 24) 2), []⟩, ⟨(some 26), none, (.faddr (.t 25) 0), []⟩, ⟨(some 27), none, (.ld (.t 26) none), []⟩, ⟨(some 28), none, (.bin .neq (.t 22) (.t 27)), []⟩, ⟨(some 29), none, (.mov (.t 28)), []⟩, ⟨(some 30), (some (29, false)), (.mov (.t 0)), []⟩, ⟨(some 31), (some (29, false)), (.mov (.t 5)), []⟩, ⟨(some 32), (some (29, false)), (.iaddr (.t 30) (.t 31) 2), []⟩, ⟨(some 33), (some (29, false)), (.faddr (.t 32) 1), []⟩, ⟨(some 34), (some (29, false)), (.ld (.t 33) none), []⟩, ⟨(some 35), (some (29, false)), (.len false (.t 34)), []⟩, ⟨(some 36), (some (29, false)), (.mov (.t 1)), []⟩, ⟨(some 37), (some (29, false)), (.mov (.t 5)), []⟩, ⟨(some 38), (some (29, false)), (.iaddr (.t 36) (.t 37) 2), []⟩, ⟨(some 39), (some (29, false)), (.faddr (.t 38) 1), []⟩, ⟨(some 40), (some (29, false)), (.ld (.t 39) none), []⟩, ⟨(some 41), (some (29, false)), (.len false (.t 40)), []⟩, ⟨(some 42), (some (29, false)), (.bin .neq (.t 35) (.t 41)), []⟩, ⟨(some 43), none, (.pick (.t 29) (.c (.bool true)) (.t 42)), []⟩]) (.cond (.t 43) (.seq (.reg false [⟨(some 4), none, (.mov (.c (.bool false))), []⟩]) .ret) .skip)) (.seq (.reg false [⟨(some 6), none, (.mov (.c (.int .i64 0))), []⟩]) (.block 2 (.loop l8_0))))) (.reg false [⟨(some 16), none, (.mov (.t 5)), []⟩, ⟨(some 17), none, (.bin .add (.t 16) (.c (.int .i64 1))), []⟩, ⟨(some 5), none, (.mov (.t 17)), []⟩])))
def c8 : Cmd := (.seq (.reg false [⟨(some 4), none, (.mov (.c (.bool false))), []⟩]) (.seq (.seq (.reg false [⟨(some 7), none, (.mov (.t 0)), []⟩, ⟨(some 8), none, (.len false (.t 7)), []⟩, ⟨(some 9), none, (.mov (.t 1)), []⟩, ⟨(some 10), none, (.len false (.t 9)), []⟩, ⟨(some 11), none, (.bin .neq (.t 8) (.t 10)), []⟩]) (.cond (.t 11) (.seq (.reg false [⟨(some 4), none, (.mov (.c (.bool false))), []⟩]) .ret) .skip)) (.seq (.seq (.reg false [⟨(some 5), none, (.mov (.c (.int .i64 0))), []⟩]) (.block 0 (.loop l8_1))) (.seq (.reg false [⟨(some 4), none, (.mov (.c (.bool true))), []⟩]) .ret))))
theorem h8 : compF Tryd.prog sh 8 = some (c8, [4], 71) := by kernel_rfl
def c5 : Cmd := (.seq (.reg false [⟨(some 4), none, (.mov (.c (.bool false))), []⟩]) (.seq (.reg false [⟨(some 16), none, (.mov (.t 0)), []⟩, ⟨(some 17), none, (.call 10 [(.t 16)]), []⟩, ⟨(some 15), none, (.mov (.t 17)), []⟩, ⟨(some 18), none, (.ext (.t 15) 0), []⟩, ⟨(some 19), none, (.ext (.t 15) 1), []⟩, ⟨(some 5), none, (.mov (.t 18)), []⟩, ⟨(some 6), none, (.mov (.t 19)), []⟩]) (.seq (.reg false [⟨(some 21), none, (.mov (.t 0)), []⟩, ⟨(some 22), none, (.call 13 [(.t 21)]), []⟩, ⟨(some 20), none, (.mov (.t 22)), []⟩, ⟨(some 23), none, (.ext (.t 20) 0), []⟩, ⟨(some 24), none, (.ext (.t 20) 1), []⟩, ⟨(some 7), none, (.mov (.t 23)), []⟩, ⟨(some 8), none, (.mov (.t 24)), []⟩]) (.seq (.reg false [⟨(some 26), none, (.mov (.t 1)), []⟩, ⟨(some 27), none, (.call 11 [(.t 26)]), []⟩, ⟨(some 25), none, (.mov (.t 27)), []⟩, ⟨(some 28), none, (.ext (.t 25) 0), []⟩, ⟨(some 29), none, (.ext (.t 25) 1), []⟩, ⟨(some 30), none, (.ext (.t 25) 2), []⟩, ⟨(some 9), none, (.mov (.t 28)), []⟩, ⟨(some 10), none, (.mov (.t 29)), []⟩, ⟨(some 11), none, (.mov (.t 30)), []⟩]) (.seq (.reg false [⟨(some 32), none, (.mov (.t 1)), []⟩, ⟨(some 33), none, (.call 14 [(.t 32)]), []⟩, ⟨(some 31), none, (.mov (.t 33)), []⟩, ⟨(some 34), none, (.ext (.t 31) 0), []⟩, ⟨(some 35), none, (.ext (.t 31) 1), []⟩, ⟨(some 36), none, (.ext (.t 31) 2), []⟩, ⟨(some 12), none, (.mov (.t 34)), []⟩, ⟨(some 13), none, (.mov (.t 35)), []⟩, ⟨(some 14), none, (.mov (.t 36)), []⟩]) (.seq (.reg false [⟨(some 37), none, (.mov (.t 5)), []⟩, ⟨(some 38), none, (.mov (.t 7)), []⟩, ⟨(some 39), none, (.bin .eql (.t 37) (.t 38)), []⟩, ⟨(some 40), none, (.mov (.t 39)), []⟩, ⟨(some 41), (some (40, true)), (.mov (.t 6)), []⟩, ⟨(some 42), (some (40, true)), (.mov (.t 8)), []⟩, ⟨(some 43), (some (40, true)), (.bin .eql (.t 41) (.t 42)), []⟩, ⟨(some 44), none, (.pick (.t 40) (.t 43) (.c (.bool false))), []⟩, ⟨(some 45), none, (.mov (.t 44)), []⟩, ⟨(some 46), (some (45, true)), (.mov (.t 9)), []⟩, ⟨(some 47), (some (45, true)), (.mov (.t 12)), []⟩, ⟨(some 48), (some (45, true)), (.call 12 [(.t 46), (.t 47)]), []⟩, ⟨(some 49), none, (.pick (.t 45) (.t 48) (.c (.bool false))), []⟩, ⟨(some 50), none, (.mov (.t 49)), []⟩, ⟨(some 51), (some (50, true)), (.mov (.t 10)), []⟩, ⟨(some 52), (some (50, true)), (.mov (.t 13)), []⟩, ⟨(some 53), (some (50, true)), (.bin .eql (.t 51) (.t 52)), []⟩, ⟨(some 54), none, (.pick (.t 50) (.t 53) (.c (.bool false))), []⟩, ⟨(some 55), none, (.mov (.t 54)), []⟩, ⟨(some 56), (some (55, true)), (.mov (.t 11)), []⟩, ⟨(some 57), (some (55, true)), (.mov (.t 14)), []⟩, ⟨(some 58), (some (55, true)), (.bin .eql (.t 56) (.t 57)), []⟩, ⟨(some 59), none, (.pick (.t 55) (.t 58) (.c (.bool false))), []⟩, ⟨(some 60), none, (.mov (.t 59)), []⟩, ⟨(some 61), (some (60, true)), (.call 9 []), []⟩, ⟨(some 62), none, (.pick (.t 60) (.t 61) (.c (.bool false))), []⟩, ⟨(some 4), none, (.mov (.t 62)), []⟩]) .ret))))))
theorem h5 : compF Tryd.prog sh 5 = some (c5, [4], 63) := by kernel_rfl
def c4 : Cmd := (.seq (.reg false [⟨(some 4), none, (.mov (.c (.bool false))), []⟩]) (.seq (.seq (.reg false [⟨(some 15), none, (.mov (.t 0)), []⟩, ⟨(some 16), none, (.call 10 [(.t 15)]), []⟩, ⟨(some 14), none, (.mov (.t 16)), []⟩, ⟨(some 17), none, (.ext (.t 14) 0), []⟩, ⟨(some 18), none, (.ext (.t 14) 1), []⟩, ⟨(some 5), none, (.mov (.t 17)), []⟩, ⟨(some 6), none, (.mov (.t 18)), []⟩]) (.seq (.reg false [⟨(some 19), none, (.mov (.t 6)), []⟩, ⟨(some 20), none, (.bin .eql (.t 19) (.c (.int .i64 0))), []⟩]) (.cond (.t 20) (.seq (.reg false [⟨(some 22), none, (.mov (.t 5)), []⟩, ⟨(some 23), none, (.call 11 [(.t 22)]), []⟩, ⟨(some 21), none, (.mov (.t 23)), []⟩, ⟨(some 24), none, (.ext (.t 21) 0), []⟩, ⟨(some 25), none, (.ext (.t 21) 1), []⟩, ⟨(some 26), none, (.ext (.t 21) 2), []⟩, ⟨(some 7), none, (.mov (.t 24)), []⟩, ⟨(some 8), none, (.mov (.t 25)), []⟩, ⟨(some 9), none, (.mov (.t 26)), []⟩]) (.seq (.reg false [⟨(some 27), none, (.mov (.t 9)), []⟩, ⟨(some 28), none, (.bin .neq (.t 27) (.c (.int .i64 0))), []⟩, ⟨(some 29), none, (.mov (.t 28)), []⟩, ⟨(some 30), (some (29, false)), (.mov (.t 8)), []⟩, ⟨(some 31), (some (29, false)), (.bin .neq (.t 30) (.c (.int .i64 0))), []⟩, ⟨(some 32), none, (.pick (.t 29) (.c (.bool true)) (.t 31)), []⟩, ⟨(some 33), none, (.mov (.t 32)), []⟩, ⟨(some 34), (some (33, false)), (.mov (.t 7)), []⟩, ⟨(some 35), (some (33, false)), (.mov (.t 0)), []⟩, ⟨(some 36), (some (33, false)), (.call 12 [(.t 34), (.t 35)]), []⟩, ⟨(some 37), (some (33, false)), (.un .not (.t 36)), []⟩, ⟨(some 38), none, (.pick (.t 33) (.c (.bool true)) (.t 37)), []⟩]) (.cond (.t 38) (.seq (.reg false [⟨(some 4), none, (.mov (.c (.bool false))), []⟩]) .ret) .skip))) .skip))) (.seq (.reg false [⟨(some 40), none, (.mov (.t 1)), []⟩, ⟨(some 41), none, (.call 11 [(.t 40)]), []⟩, ⟨(some 39), none, (.mov (.t 41)), []⟩, ⟨(some 42), none, (.ext (.t 39) 0), []⟩, ⟨(some 43), none, (.ext (.t 39) 1), []⟩, ⟨(some 44), none, (.ext (.t 39) 2), []⟩, ⟨(some 10), none, (.mov (.t 42)), []⟩, ⟨(some 11), none, (.mov (.t 43)), []⟩, ⟨(some 12), none, (.mov (.t 44)), []⟩]) (.seq (.seq (.reg false [⟨(some 45), none, (.mov (.t 12)), []⟩, ⟨(some 46), none, (.bin .neq (.t 45) (.c (.int .i64 0))), []⟩]) (.cond (.t 46) (.seq (.reg false [⟨(some 47), none, (.mov (.t 10)), []⟩, ⟨(some 48), none, (.len false (.t 47)), []⟩, ⟨(some 49), none, (.bin .eql (.t 48) (.c (.int .i64 0))), []⟩, ⟨(some 50), none, (.mov (.t 49)), []⟩, ⟨(some 51), (some (50, true)), (.call 9 []), []⟩, ⟨(some 52), none, (.pick (.t 50) (.t 51) (.c (.bool false))), []⟩, ⟨(some 4), none, (.mov (.t 52)), []⟩]) .ret) .skip)) (.seq (.reg false [⟨(some 54), none, (.mov (.t 10)), []⟩, ⟨(some 55), none, (.call 10 [(.t 54)]), []⟩, ⟨(some 53), none, (.mov (.t 55)), []⟩, ⟨(some 56), none, (.ext (.t 53) 0), []⟩, ⟨(some 57), none, (.ext (.t 53) 1), []⟩, ⟨(some 13), none, (.mov (.t 56)), []⟩, ⟨(some 12), none, (.mov (.t 57)), []⟩]) (.seq (.reg false [⟨(some 58), none, (.mov (.t 12)), []⟩, ⟨(some 59), none, (.bin .eql (.t 58) (.c (.int .i64 0))), []⟩, ⟨(some 60), none, (.mov (.t 59)), []⟩, ⟨(some 61), (some (60, true)), (.mov (.t 13)), []⟩, ⟨(some 62), (some (60, true)), (.mov (.t 1)), []⟩, ⟨(some 63), (some (60, true)), (.bin .eql (.t 61) (.t 62)), []⟩, ⟨(some 64), none, (.pick (.t 60) (.t 63) (.c (.bool false))), []⟩, ⟨(some 65), none, (.mov (.t 64)), []⟩, ⟨(some 66), (some (65, true)), (.call 9 []), []⟩, ⟨(some 67), none, (.pick (.t 65) (.t 66) (.c (.bool false))), []⟩, ⟨(some 4), none, (.mov (.t 67)), []⟩]) .ret))))))
theorem h4 : compF Tryd.prog sh 4 = some (c4, [4], 68) := by kernel_rfl
def c3 : Cmd := (.seq (.reg false [⟨(some 4), none, (.mov (.c (.bool false))), []⟩]) (.seq (.seq (.reg false [⟨(some 15), none, (.mov (.t 0)), []⟩, ⟨(some 16), none, (.call 6 [(.t 15)]), []⟩, ⟨(some 14), none, (.mov (.t 16)), []⟩, ⟨(some 17), none, (.ext (.t 14) 0), []⟩, ⟨(some 18), none, (.ext (.t 14) 1), []⟩, ⟨(some 5), none, (.mov (.t 17)), []⟩, ⟨(some 6), none, (.mov (.t 18)), []⟩]) (.seq (.reg false [⟨(some 19), none, (.mov (.t 6)), []⟩, ⟨(some 20), none, (.bin .eql (.t 19) (.c (.int .i64 0))), []⟩]) (.cond (.t 20) (.seq (.reg false [⟨(some 22), none, (.mov (.t 5)), []⟩, ⟨(some 23), none, (.call 7 [(.t 22)]), []⟩, ⟨(some 21), none, (.mov (.t 23)), []⟩, ⟨(some 24), none, (.ext (.t 21) 0), []⟩, ⟨(some 25), none, (.ext (.t 21) 1), []⟩, ⟨(some 26), none, (.ext (.t 21) 2), []⟩, ⟨(some 7), none, (.mov (.t 24)), []⟩, ⟨(some 8), none, (.mov (.t 25)), []⟩, ⟨(some 9), none, (.mov (.t 26)), []⟩]) (.seq (.reg false [⟨(some 27), none, (.mov (.t 9)), []⟩, ⟨(some 28), none, (.bin .neq (.t 27) (.c (.int .i64 0))), []⟩, ⟨(some 29), none, (.mov (.t 28)), []⟩, ⟨(some 30), (some (29, false)), (.mov (.t 8)), []⟩, ⟨(some 31), (some (29, false)), (.bin .neq (.t 30) (.c (.int .i64 0))), []⟩, ⟨(some 32), none, (.pick (.t 29) (.c (.bool true)) (.t 31)), []⟩, ⟨(some 33), none, (.mov (.t 32)), []⟩, ⟨(some 34), (some (33, false)), (.mov (.t 7)), []⟩, ⟨(some 35), (some (33, false)), (.mov (.t 0)), []⟩, ⟨(some 36), (some (33, false)), (.call 8 [(.t 34), (.t 35)]), []⟩, ⟨(some 37), (some (33, false)), (.un .not (.t 36)), []⟩, ⟨(some 38), none, (.pick (.t 33) (.c (.bool true)) (.t 37)), []⟩]) (.cond (.t 38) (.seq (.reg false [⟨(some 4), none, (.mov (.c (.bool false))), []⟩]) .ret) .skip))) .skip))) (.seq (.reg false [⟨(some 40), none, (.mov (.t 1)), []⟩, ⟨(some 41), none, (.call 7 [(.t 40)]), []⟩, ⟨(some 39), none, (.mov (.t 41)), []⟩, ⟨(some 42), none, (.ext (.t 39) 0), []⟩, ⟨(some 43), none, (.ext (.t 39) 1), []⟩, ⟨(some 44), none, (.ext (.t 39) 2), []⟩, ⟨(some 10), none, (.mov (.t 42)), []⟩, ⟨(some 11), none, (.mov (.t 43)), []⟩, ⟨(some 12), none, (.mov (.t 44)), []⟩]) (.seq (.seq (.reg false [⟨(some 45), none, (.mov (.t 12)), []⟩, ⟨(some 46), none, (.bin .neq (.t 45) (.c (.int .i64 0))), []⟩]) (.cond (.t 46) (.seq (.reg false [⟨(some 47), none, (.mov (.t 10)), []⟩, ⟨(some 48), none, (.len false (.t 47)), []⟩, ⟨(some 49), none, (.bin .eql (.t 48) (.c (.int .i64 0))), []⟩, ⟨(some 50), none, (.mov (.t 49)), []⟩, ⟨(some 51), (some (50, true)), (.call 9 []), []⟩, ⟨(some 52), none, (.pick (.t 50) (.t 51) (.c (.bool false))), []⟩, ⟨(some 4), none, (.mov (.t 52)), []⟩]) .ret) .skip)) (.seq (.reg false [⟨(some 54), none, (.mov (.t 10)), []⟩, ⟨(some 55), none, (.call 6 [(.t 54)]), []⟩, ⟨(some 53), none, (.mov (.t 55)), []⟩, ⟨(some 56), none, (.ext (.t 53) 0), []⟩, ⟨(some 57), none, (.ext (.t 53) 1), []⟩, ⟨(some 13), none, (.mov (.t 56)), []⟩, ⟨(some 12), none, (.mov (.t 57)), []⟩]) (.seq (.reg false [⟨(some 58), none, (.mov (.t 12)), []⟩, ⟨(some 59), none, (.bin .eql (.t 58) (.c (.int .i64 0))), []⟩, ⟨(some 60), none, (.mov (.t 59)), []⟩, ⟨(some 61), (some (60, true)), (.mov (.t 13)), []⟩, ⟨(some 62), (some (60, true)), (.mov (.t 1)), []⟩, ⟨(some 63), (some (60, true)), (.bin .eql (.t 61) (.t 62)), []⟩, ⟨(some 64), none, (.pick (.t 60) (.t 63) (.c (.bool false))), []⟩, ⟨(some 65), none, (.mov (.t 64)), []⟩, ⟨(some 66), (some (65, true)), (.call 9 []), []⟩, ⟨(some 67), none, (.pick (.t 65) (.t 66) (.c (.bool false))), []⟩, ⟨(some 4), none, (.mov (.t 67)), []⟩]) .ret))))))
theorem h3 : compF Tryd.prog sh 3 = some (c3, [4], 68) := by kernel_rfl
end Go.Proofs.P4
end
