/- The two packages do what their chapters say of one simple thing; numbers below a bound. -/
import Derived.Test.YtjldiihndmkpfaaT5
set_option linter.unusedVariables false
set_option linter.unusedSimpArgs false
set_option maxRecDepth 10000
set_option maxHeartbeats 8000000
namespace Go.Proofs.P3
open Go.Ex
theorem Below1_ok (x n : Int) (h1 : 1 ≤ n) (h2 : n ≤ 1000000) : OkF Try.prog 58 [.int .i64 x, .int .i64 n] (.int .i64 (x % n), []) := by
  refine OkF.W0 hm h58 (of_decide_eq_true rfl) ?_
  unfold c58
  obtain ⟨m1, m2, m3⟩ := below_math x n h1
  have n0 : ¬ n = 0 := by omega
  by_cases q : x.tmod n < 0
  · have e := m1 q
    have w : IntKind.i64.wrap (x.tmod n + n) = x % n := by rw [w_i64 (by omega) (by omega)]; exact e
    simp -dsimp [n0, q, w]
  · have e := m2 q
    have q2 : ¬ x % n < 0 := by omega
    simp -dsimp [n0, q2, e]
def nine : List UInt8 := [49, 50, 51, 52, 53, 54, 55, 56, 57]
abbrev nineV : List V := [.int .u8 49, .int .u8 50, .int .u8 51, .int .u8 52, .int .u8 53, .int .u8 54, .int .u8 55, .int .u8 56, .int .u8 57]
theorem nineRO {h : Hp} {id : Nat} {b0 : Option LB} : toRO (upd (upd h id b0) id (some ⟨0, 1, nineV, none⟩)) 8 (.sl id 0 0 9 (some 9)) = some (rB nine) :=
  (Acc.mk (d := byteCd) (nx := id + 1) (l := nine) (cap := some 9) (by omega) (by simp only [upd, if_true]; rfl)).ro (n := 7)
theorem works_ok : OkF Try.prog 56 [] (.bool true, []) := by
  refine OkF.W0 hm h56 (of_decide_eq_true rfl) ?_
  unfold c56
  have k1 := Coded_ok 1
  have e1 : codE 1 = (2097159, 0) := by decide +kernel
  rw [e1] at k1
  have k2 := SumS_ok nine (by decide)
  have k3 := Sum_ok nine (by decide)
  generalize sumN nine = x at *
  have hfl : fl byteCd nine = [.int .u8 49, .int .u8 50, .int .u8 51, .int .u8 52, .int .u8 53, .int .u8 54, .int .u8 55, .int .u8 56, .int .u8 57] := rfl
  simp -dsimp
  refine call_pure k1 (by simp) (by simp) ?_
  simp -dsimp [fillA, nineRO]
  refine call_one k2 (by simp [okRes, roFree, roFreeL]) ?_
  simp -dsimp [fillA, nineRO]
  refine call_int k3 ?_
  simp -dsimp
end Go.Proofs.P3
