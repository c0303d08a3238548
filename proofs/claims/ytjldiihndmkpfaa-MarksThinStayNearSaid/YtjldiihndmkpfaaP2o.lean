/- Which line is straight; fractions held against each other; plain and walked. -/
import Derived.Test.YtjldiihndmkpfaaP2n
import Derived.Test.YtjldiihndmkpfaaP2F
set_option linter.unusedVariables false
set_option linter.unusedSimpArgs false
set_option maxRecDepth 10000
set_option maxHeartbeats 8000000
namespace Go.Proofs.P3
open Go.Ex
structure FrOk (x : Int × Int) : Prop where
  n0 : -10000000000000 ≤ x.1
  n1 : x.1 ≤ 10000000000000
  d0 : 0 < x.2
  d1 : x.2 ≤ 1000000000000
theorem cmp_words {p q ph pl qh ql : Int} (e1 : p = ph * 18446744073709551616 + pl) (e2 : q = qh * 18446744073709551616 + ql) (r1 : 0 ≤ pl ∧ pl < 18446744073709551616) (r2 : 0 ≤ ql ∧ ql < 18446744073709551616) : p < q ↔ ph < qh ∨ ph = qh ∧ pl < ql := by omega
theorem lessF_ok {x y : Int × Int} (hx : FrOk x) (hy : FrOk y) : OkF Try.prog 76 [.int .i64 x.1, .int .i64 y.2, .int .i64 y.1, .int .i64 x.2] (.bool (lsB x y), []) := by
  refine OkF.W0 hm h76 (of_decide_eq_true rfl) ?_
  unfold c76 lsB
  obtain ⟨a, b⟩ := x
  obtain ⟨c, d⟩ := y
  obtain ⟨x1, x2, x3, x4⟩ := hx
  obtain ⟨y1, y2, y3, y4⟩ := hy
  simp only at *
  have am : ∀ z : Int, -10000000000000 ≤ z → z ≤ 10000000000000 → OkF Try.prog 122 [.int .i64 z] (.int .u64 (amt z), []) := fun z h0 h1 => amount_ok (a := z) (by omega) (by omega)
  have ab : amt b = b := by unfold amt; rw [if_neg (by omega)]
  have ad : amt d = d := by unfold amt; rw [if_neg (by omega)]
  have cb := am b (by omega) (by omega)
  have cd := am d (by omega) (by omega)
  have ca := am a x1 x2
  have cc := am c y1 y2
  rw [ab] at cb
  rw [ad] at cd
  have nb : ¬ b < 0 := by omega
  have nd : ¬ d < 0 := by omega
  have ra : 0 ≤ amt a ∧ amt a ≤ 10000000000000 := by unfold amt; split <;> omega
  have rc : 0 ≤ amt c ∧ amt c ≤ 10000000000000 := by unfold amt; split <;> omega
  obtain ⟨p0, p1⟩ := mul_bound (a := amt a) (b := d) (n := 10000000000000) (m := 1000000000000) (by omega) (by omega) (by omega) (by omega)
  obtain ⟨q0, q1⟩ := mul_bound (a := amt c) (b := b) (n := 10000000000000) (m := 1000000000000) (by omega) (by omega) (by omega) (by omega)
  have m1 := mul_ok (x := amt a) (y := d) (by omega) (by omega) (by omega) (by omega)
  have m2 := mul_ok (x := amt c) (y := b) (by omega) (by omega) (by omega) (by omega)
  have sa : a < 0 → a * d = -(amt a * d) ∧ 0 < amt a * d := fun h => by
    have e : amt a = -a := by unfold amt; rw [if_pos h]
    rw [e]
    exact ⟨by grind, Int.mul_pos (by omega) y3⟩
  have sc : c < 0 → c * b = -(amt c * b) ∧ 0 < amt c * b := fun h => by
    have e : amt c = -c := by unfold amt; rw [if_pos h]
    rw [e]
    exact ⟨by grind, Int.mul_pos (by omega) x3⟩
  have sa' : ¬ a < 0 → a * d = amt a * d := fun h => by
    have e : amt a = a := by unfold amt; rw [if_neg h]
    rw [e]
  have sc' : ¬ c < 0 → c * b = amt c * b := fun h => by
    have e : amt c = c := by unfold amt; rw [if_neg h]
    rw [e]
  generalize amt a * d = p at *
  generalize amt c * b = q at *
  have e1 : p = p / 18446744073709551616 * 18446744073709551616 + p % 18446744073709551616 := by omega
  have e2 : q = q / 18446744073709551616 * 18446744073709551616 + q % 18446744073709551616 := by omega
  have r1 : 0 ≤ p % 18446744073709551616 ∧ p % 18446744073709551616 < 18446744073709551616 := by omega
  have r2 : 0 ≤ q % 18446744073709551616 ∧ q % 18446744073709551616 < 18446744073709551616 := by omega
  have r3 : 0 ≤ p / 18446744073709551616 := by omega
  have r4 : 0 ≤ q / 18446744073709551616 := by omega
  generalize p / 18446744073709551616 = ph at *
  generalize p % 18446744073709551616 = pl at *
  generalize q / 18446744073709551616 = qh at *
  generalize q % 18446744073709551616 = ql at *
  generalize a * d = A at *
  generalize c * b = B at *
  have k1 := cmp_words e1 e2 r1 r2
  have k2 := cmp_words e2 e1 r2 r1
  by_cases ha : a < 0 <;> by_cases hc : c < 0
  all_goals
    simp -dsimp [ha, hc, nb, nd]
    refine call_pure ca (by simp) rfl ?_
    simp -dsimp
    refine call_pure cd (by simp) rfl ?_
    simp -dsimp
    refine call_pure m1 (by simp) rfl ?_
    simp -dsimp
    refine call_pure cc (by simp) rfl ?_
    simp -dsimp
    refine call_pure cb (by simp) rfl ?_
    simp -dsimp
    refine call_pure m2 (by simp) rfl ?_
    simp -dsimp
    repeat' (first | (refine wantT_of ?_ ?_ <;> intro z <;> (try rw [z]) <;> simp -dsimp <;> (first | replace z := of_decide_eq_true z | replace z := of_decide_eq_false z)) | (refine condK_of ?_ ?_ <;> intro z <;> (try rw [z]) <;> simp -dsimp <;> (first | replace z := of_decide_eq_true z | replace z := of_decide_eq_false z)))
  all_goals first | (exfalso; omega) | skip
  all_goals
    by_cases e : A < B <;> by_cases c1 : ph < qh <;> by_cases c2 : qh < ph <;> by_cases c3 : pl < ql <;> by_cases c4 : ql < pl
    all_goals first | (exfalso; omega) | skip
    all_goals first
      | (have d1 : (ph = qh) = True := eq_true (by omega); have d2 : (qh = ph) = True := eq_true (by omega); simp -dsimp [d1, d2, c1, c2, c3, c4, e]; done)
      | (have d1 : ¬ ph = qh := (by omega); have d2 : ¬ qh = ph := (by omega); simp -dsimp [d1, d2, c1, c2, c3, c4, e]; done)
      | omega
end Go.Proofs.P3
