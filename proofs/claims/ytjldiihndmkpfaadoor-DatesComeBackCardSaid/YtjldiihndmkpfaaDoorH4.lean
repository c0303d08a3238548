/- Days, months and years: what the small functions of dates answer, both sides. -/
import Derived.Test.YtjldiihndmkpfaaDoorH3
set_option linter.unusedVariables false
set_option linter.unusedSimpArgs false
set_option maxRecDepth 10000
set_option maxHeartbeats 8000000
namespace Go.Proofs.P4
open Go.Ex
theorem CheckLeaps_ok (l : List Int) : OkF Tryd.prog 13 [rI l] (.int .i64 (leapsE l), []) := by
  refine OkF.W0 hm h13 (of_decide_eq_true rfl) ?_
  unfold c13
  by_cases h1 : 100 < l.length
  · have h1' : (100 < (l.length : Int)) := by omega
    have e : leapsE l = 2 := by unfold leapsE; rw [if_pos h1]
    simp -dsimp [h1', e]
  have h1' : ¬ (100 < (l.length : Int)) := by omega
  have hfe : leapsE l = fe (leapE l) l.length := by unfold leapsE; rw [if_neg h1]
  simp -dsimp [h1']
  refine for_lt l.length (fun k s' => s'.t 0 = rI l ∧ s'.t 8 = rI l ∧ fe (leapE l) k = 0) rfl (by omega) (by simp -dsimp [fe]) (by simp -dsimp) (by simp -dsimp) (fun k s' hk hI hi hn => ?_) (fun s' hI hi hn => ?_)
  · obtain ⟨i0, i1, i3⟩ := hI
    have hg : l[k]? = some l[k] := List.getElem?_eq_getElem hk
    generalize l[k] = x at hg
    obtain ⟨z, hz⟩ := prev_get hg
    have hwj : 0 < k → IntKind.i64.wrap ((k : Int) - 1) = ((k - 1 : Nat) : Int) := fun h => wrap_pred h (by omega)
    have hbp : ∀ p, 0 < k → before l p k = p z := fun p h => before_pos h (hz h)
    have bad : ∀ v, leapE l k = v → v ≠ 0 → leapsE l = v := fun v h1 h2 => by rw [hfe, fe_stop i3 (by rw [h1]; exact h2) hk, h1]
    have hch : leapE l k = if inB x 0 20000 = false then 1 else if before l (fun y => decide (x ≤ y)) k = true then 8 else 0 := by unfold leapE; rw [hg]
    unfold k13_0
    simp -dsimp [i0, i1, hi, hn, i_ia hg, i_ld hg]
    refine call_bool (In_ok _ _ _) ?_
    simp -dsimp
    refine condK_of ?_ ?_ <;> intro a1 <;> simp -dsimp [a1]
    · rw [bad 1 (by rw [hch]; simp at a1; simp [a1]) (by decide)]
    simp at a1
    refine wantT_of ?_ ?_ <;> intro a4 <;> simp -dsimp [a4, i0]
    · have hp : 0 < k := by simpa using a4
      simp -dsimp [hwj hp, i_ia (hz hp), i_ld (hz hp)]
      refine condK_of ?_ ?_ <;> intro a6 <;> simp -dsimp [a6, i0, i1, hi, hn]
      · rw [bad 8 (by rw [hch, hbp _ hp]; simp [a1, a6]) (by decide)]
      · exact fe_step i3 (by rw [hch, hbp _ hp]; simp [a1, a6])
    · simp -dsimp [i0, i1, hi, hn]
      have hp : ¬ 0 < k := by simpa using a4
      exact fe_step i3 (by rw [hch, before_zero hp]; simp [a1])
  · simp -dsimp [hfe, hI.2.2]
theorem CheckLeapsR_ok (l : List Int) : OkF Tryd.prog 14 [rI l] (.int .i64 (leapsE l), []) := by
  refine OkF.W0 hm h14 (of_decide_eq_true rfl) ?_
  unfold c14
  by_cases h1 : 100 < l.length
  · have h1' : (100 < (l.length : Int)) := by omega
    have e : leapsE l = 2 := by unfold leapsE; rw [if_pos h1]
    simp -dsimp [h1', e]
  have h1' : ¬ (100 < (l.length : Int)) := by omega
  have hfe : leapsE l = fe (leapE l) l.length := by unfold leapsE; rw [if_neg h1]
  simp -dsimp [h1']
  refine loop_to 3 l.length (fun k t => t.t 3 = .int .i64 k ∧ t.t 0 = rI l ∧ fe (leapE l) k = 0) (fun k t h => h.1) ⟨by simp -dsimp, by simp -dsimp, rfl⟩ (fun k t hk hI => ?_)
  obtain ⟨i3, i0, iu⟩ := hI
  by_cases hlt : k < l.length
  · have hlt' : (k : Int) < (l.length : Int) := by omega
    have hg : l[k]? = some l[k] := List.getElem?_eq_getElem hlt
    have hw : IntKind.i64.wrap ((k : Int) + 1) = (k : Int) + 1 := IntWalk.i64_in _ (by omega)
    generalize l[k] = x at hg
    obtain ⟨z, hz⟩ := prev_get hg
    have hwj : 0 < k → IntKind.i64.wrap ((k : Int) - 1) = ((k - 1 : Nat) : Int) := fun h => wrap_pred h (by omega)
    have hbp : ∀ p, 0 < k → before l p k = p z := fun p h => before_pos h (hz h)
    have bad : ∀ v, leapE l k = v → v ≠ 0 → leapsE l = v := fun v h1 h2 => by rw [hfe, fe_stop iu (by rw [h1]; exact h2) hlt, h1]
    have hch : leapE l k = if inB x 0 20000 = false then 1 else if before l (fun y => decide (x ≤ y)) k = true then 8 else 0 := by unfold leapE; rw [hg]
    unfold l14_0
    simp -dsimp [i0, i3, hlt', i_ia hg, i_ld hg]
    refine call_bool (within2_ok _ _ _) ?_
    simp -dsimp
    refine condK_of ?_ ?_ <;> intro a1 <;> simp -dsimp [a1, i0, i3]
    · rw [bad 1 (by rw [hch]; simp at a1; simp [a1]) (by decide)]
    simp at a1
    refine wantT_of ?_ ?_ <;> intro a4 <;> simp -dsimp [a4, i0, i3, hw, i_ia hg, i_ld hg]
    · have hp : 0 < k := by simpa using a4
      simp -dsimp [hwj hp, i_ia (hz hp), i_ld (hz hp)]
      refine condK_of ?_ ?_ <;> intro a6 <;> simp -dsimp [a6, i0, i3, hw]
      · rw [bad 8 (by rw [hch, hbp _ hp]; simp [a1, a6]) (by decide)]
      · exact ⟨by omega, fe_step iu (by rw [hch, hbp _ hp]; simp [a1, a6])⟩
    · have hp : ¬ 0 < k := by simpa using a4
      exact ⟨by omega, fe_step iu (by rw [hch, before_zero hp]; simp [a1])⟩
  · have hkl : k = l.length := by omega
    subst hkl
    unfold l14_0
    simp -dsimp [i3, i0, hfe, iu]
theorem tm_nat {y k : Nat} : (y : Int).tmod k = ((y % k : Nat) : Int) := by rw [Int.tmod_eq_emod_of_nonneg (by omega)]; omega
theorem leap_ok (y : Nat) : OkF Tryd.prog 61 [.int .i64 y] (.bool (decide (lp y)), []) := by
  refine OkF.W0 hm h61 (of_decide_eq_true rfl) ?_
  unfold c61
  have e4 : (y : Int).tmod 4 = ((y % 4 : Nat) : Int) := tm_nat (k := 4)
  have e100 : (y : Int).tmod 100 = ((y % 100 : Nat) : Int) := tm_nat (k := 100)
  have e400 : (y : Int).tmod 400 = ((y % 400 : Nat) : Int) := tm_nat (k := 400)
  have hq : decide (lp y) = (decide (y % 4 = 0) && (!decide (y % 100 = 0) || decide (y % 400 = 0))) := by rw [Bool.eq_iff_iff, decide_eq_true_iff]; unfold lp; simp
  rw [hq]
  generalize y % 4 = a at *
  generalize y % 100 = b at *
  generalize y % 400 = c at *
  by_cases q1 : a = 0 <;> by_cases q2 : b = 0 <;> by_cases q3 : c = 0 <;> simp -dsimp [e4, e100, e400, q1, q2, q3]
theorem leapR_ok (y : Nat) : OkF Tryd.prog 41 [.int .i64 y] (.bool (decide (lp y)), []) := by
  refine OkF.W0 hm h41 (of_decide_eq_true rfl) ?_
  unfold c41
  have e4 : (y : Int).tmod 4 = ((y % 4 : Nat) : Int) := tm_nat (k := 4)
  have e100 : (y : Int).tmod 100 = ((y % 100 : Nat) : Int) := tm_nat (k := 100)
  have e400 : (y : Int).tmod 400 = ((y % 400 : Nat) : Int) := tm_nat (k := 400)
  have m1 : y % 100 = 0 → y % 4 = 0 := mod4
  have m2 : y % 400 = 0 → y % 100 = 0 := mod100
  have hq : decide (lp y) = (decide (y % 4 = 0) && (!decide (y % 100 = 0) || decide (y % 400 = 0))) := by rw [Bool.eq_iff_iff, decide_eq_true_iff]; unfold lp; simp
  rw [hq]
  generalize y % 4 = a at *
  generalize y % 100 = b at *
  generalize y % 400 = c at *
  by_cases q1 : a = 0 <;> by_cases q2 : b = 0 <;> by_cases q3 : c = 0 <;> first
    | exact absurd (m1 q2) q1
    | exact absurd (m2 q3) q2
    | (clear m1 m2; simp -dsimp [e4, e100, e400, q1, q2, q3])
theorem long_ok (y m : Nat) : OkF Tryd.prog 31 [.int .i64 y, .int .i64 m] (.int .i64 (lg y m), []) := by
  refine OkF.W0 hm h31 (of_decide_eq_true rfl) ?_
  unfold c31
  have lk := leap_ok y
  by_cases q2 : m = 2
  · subst q2
    simp -dsimp
    refine call_bool lk ?_
    by_cases q : lp y <;> simp -dsimp [q, lg]
  · have q2' : ¬ (m : Int) = 2 := by omega
    by_cases a : m = 4
    · subst a; simp -dsimp [lg]
    by_cases b : m = 6
    · subst b; simp -dsimp [lg]
    by_cases c : m = 9
    · subst c; simp -dsimp [lg]
    by_cases d : m = 11
    · subst d; simp -dsimp [lg]
    have a' : ¬ (m : Int) = 4 := by omega
    have b' : ¬ (m : Int) = 6 := by omega
    have c' : ¬ (m : Int) = 9 := by omega
    have d' : ¬ (m : Int) = 11 := by omega
    have e : lg y m = 31 := by unfold lg; rw [if_neg q2, if_neg (by omega)]
    simp -dsimp [q2', a', b', c', d', e]
theorem longR_ok (y m : Nat) : OkF Tryd.prog 35 [.int .i64 y, .int .i64 m] (.int .i64 (lg y m), []) := by
  refine OkF.W0 hm h35 (of_decide_eq_true rfl) ?_
  unfold c35
  have lk := leapR_ok y
  by_cases q2 : m = 2
  · subst q2
    simp -dsimp
    refine call_bool lk ?_
    by_cases q : lp y <;> simp -dsimp [q, lg]
  · have q2' : ¬ (m : Int) = 2 := by omega
    by_cases a : m = 4
    · subst a; simp -dsimp [lg]
    by_cases b : m = 6
    · subst b; simp -dsimp [lg]
    by_cases c : m = 9
    · subst c; simp -dsimp [lg]
    by_cases d : m = 11
    · subst d; simp -dsimp [lg]
    have a' : ¬ (m : Int) = 4 := by omega
    have b' : ¬ (m : Int) = 6 := by omega
    have c' : ¬ (m : Int) = 9 := by omega
    have d' : ¬ (m : Int) = 11 := by omega
    have e : lg y m = 31 := by unfold lg; rw [if_neg q2, if_neg (by omega)]
    simp -dsimp [q2', a', b', c', d', e]
theorem days_ok (y : Nat) (hy : y < 100000) : OkF Tryd.prog 30 [.int .i64 y] (.int .i64 (dy y), []) := by
  refine OkF.W0 hm h30 (of_decide_eq_true rfl) ?_
  unfold c30
  match y, hy with
  | 0, _ => simp -dsimp [dy]
  | y + 1, hy =>
    rw [dy_eq]
    have n0 : ¬ (y : Int) + 1 = 0 := by omega
    have t4 : (y : Int).tdiv 4 = ((y / 4 : Nat) : Int) := by rw [Int.tdiv_eq_ediv_of_nonneg (by omega)]; omega
    have t100 : (y : Int).tdiv 100 = ((y / 100 : Nat) : Int) := by rw [Int.tdiv_eq_ediv_of_nonneg (by omega)]; omega
    have t400 : (y : Int).tdiv 400 = ((y / 400 : Nat) : Int) := by rw [Int.tdiv_eq_ediv_of_nonneg (by omega)]; omega
    have b1 := div100 y
    have b2 : y / 4 ≤ y := Nat.div_le_self _ _
    have b3 : y / 400 ≤ y := Nat.div_le_self _ _
    have b4 : y * 365 ≤ 36500000 := by omega
    have w1 : IntKind.i64.wrap (y : Int) = (y : Int) := w_i64 (by omega) (by omega)
    have w2 : IntKind.i64.wrap ((y : Int) * 365) = ((y * 365 : Nat) : Int) := by rw [w_i64 (by omega) (by omega)]; omega
    generalize y / 4 = a at *
    generalize y / 100 = b at *
    generalize y / 400 = c at *
    generalize y * 365 = d at *
    have w3 : IntKind.i64.wrap (366 + (d : Int)) = 366 + (d : Int) := w_i64 (by omega) (by omega)
    have w4 : IntKind.i64.wrap (a : Int) = (a : Int) := w_i64 (by omega) (by omega)
    have w5 : IntKind.i64.wrap (b : Int) = (b : Int) := w_i64 (by omega) (by omega)
    have w6 : IntKind.i64.wrap (c : Int) = (c : Int) := w_i64 (by omega) (by omega)
    have w7 : IntKind.i64.wrap (366 + (d : Int) + a) = 366 + (d : Int) + a := w_i64 (by omega) (by omega)
    have w8 : IntKind.i64.wrap (366 + (d : Int) + a - b) = 366 + (d : Int) + a - b := w_i64 (by omega) (by omega)
    have w9 : IntKind.i64.wrap (366 + (d : Int) + a - b + c) = 366 + (d : Int) + a - b + c := w_i64 (by omega) (by omega)
    simp -dsimp [n0, w1, w2, t4, t100, t400, w3, w4, w5, w6, w7, w8, w9]
    omega
end Go.Proofs.P4

