/- Marks that a right clock made. -/
import Derived.Test.YtjldiihndmkpfaaP2c
set_option linter.unusedVariables false
set_option linter.unusedSimpArgs false
set_option maxRecDepth 10000
set_option maxHeartbeats 4000000
namespace Go.Proofs.P3
open Go.Ex
theorem get_lAt2 {c : List Int} {p : Nat} (hp : p < c.length) : c[p]? = some (lAt c p) := by
  unfold lAt
  rw [List.getElem?_eq_getElem hp]; rfl
/-- The right time. -/
def rt (s r t : Int) : Int := s + t * r / 1000000
def mk1 (s r : Int) (ti of : List Int) (k : Nat) : Mark := (lAt ti k, rt s r (lAt ti k), lAt of k + 1)
def mkL (s r : Int) (ti of : List Int) : Nat → List Mark
  | 0 => []
  | k + 1 => mkL s r ti of k ++ [mk1 s r ti of k]
theorem mkL_len (s r : Int) (ti of : List Int) : ∀ k, (mkL s r ti of k).length = k
  | 0 => rfl
  | k + 1 => by simp [mkL, mkL_len s r ti of k]
def goodAt (ti of : List Int) (k : Nat) : Prop := 0 ≤ lAt ti k ∧ lAt ti k ≤ 1000000 ∧ 0 ≤ lAt of k ∧ lAt of k ≤ 1000
structure RightOk (s r : Int) (x : Mark) : Prop where
  t0 : 0 ≤ x.1
  t1 : x.1 ≤ 1000000
  tm : x.2.1 = rt s r x.1
  o : 1 ≤ x.2.2
theorem mkL_right {s r : Int} {ti of : List Int} : ∀ {k}, (∀ i, i < k → goodAt ti of i) → ∀ x ∈ mkL s r ti of k, RightOk s r x
  | 0, _, x, hx => by simp [mkL] at hx
  | k + 1, h, x, hx => by
    unfold mkL at hx
    rw [List.mem_append, List.mem_singleton] at hx
    rcases hx with hx | rfl
    · exact mkL_right (fun i hi => h i (by omega)) x hx
    · obtain ⟨h1, h2, h3, h4⟩ := h k (by omega)
      exact ⟨h1, h2, rfl, by simp only [mk1]; omega⟩
theorem by_right {c : Clock} {s r t : Int} (h1 : 1 ≤ c.1) (h2 : c.1 ≤ r) (h3 : r ≤ c.2) {x : Mark} (hx : RightOk s r x) (t0 : 0 ≤ t) : (byS c x t).1 ≤ rt s r t ∧ rt s r t ≤ (byS c x t).2 := by
  obtain ⟨a0, a1, a2, a3⟩ := hx
  obtain ⟨tk, tm, o⟩ := x
  simp only at a0 a1 a2 a3
  subst a2
  unfold byS rt up
  simp only
  by_cases q : 0 ≤ t - tk
  · rw [if_pos q]
    have e : t * r = tk * r + (t - tk) * r := by rw [← Int.add_mul]; congr 1; omega
    have b1 : (t - tk) * c.1 ≤ (t - tk) * r := Int.mul_le_mul_of_nonneg_left h2 q
    have b2 : (t - tk) * r ≤ (t - tk) * c.2 := Int.mul_le_mul_of_nonneg_left h3 q
    rw [e]
    generalize tk * r = A
    generalize (t - tk) * r = B at *
    generalize (t - tk) * c.1 = S at *
    generalize (t - tk) * c.2 = F at *
    simp only
    omega
  · rw [if_neg q]
    have q2 : 0 ≤ tk - t := by omega
    have e : tk * r = t * r + (tk - t) * r := by rw [← Int.add_mul]; congr 1; omega
    have b1 : (tk - t) * c.1 ≤ (tk - t) * r := Int.mul_le_mul_of_nonneg_left h2 q2
    have b2 : (tk - t) * r ≤ (tk - t) * c.2 := Int.mul_le_mul_of_nonneg_left h3 q2
    rw [e]
    generalize t * r = A
    generalize (tk - t) * r = B at *
    generalize (tk - t) * c.1 = S at *
    generalize (tk - t) * c.2 = F at *
    simp only
    omega
theorem win_right {c : Clock} {s r t : Int} (h1 : 1 ≤ c.1) (h2 : c.1 ≤ r) (h3 : r ≤ c.2) {l : List Mark} (hp : 0 < l.length) (hl : ∀ x ∈ l, RightOk s r x) (t0 : 0 ≤ t) : ∀ k, k ≤ l.length → (winN c l t k).1 ≤ rt s r t ∧ rt s r t ≤ (winN c l t k).2
  | 0, _ => by
    unfold winN
    exact by_right h1 h2 h3 (hl _ (mAt_mem hp)) t0
  | k + 1, hk => by
    have ih := win_right h1 h2 h3 hp hl t0 k (by omega)
    have := by_right h1 h2 h3 (hl _ (mAt_mem (l := l) (k := k) (by omega))) t0
    unfold winN
    simp only
    omega
theorem clash_right {c : Clock} {s r : Int} (h1 : 1 ≤ c.1) (h2 : c.1 ≤ r) (h3 : r ≤ c.2) {l : List Mark} (hl : ∀ x ∈ l, RightOk s r x) : ∀ k, k ≤ l.length → clashL c l k = []
  | 0, _ => rfl
  | k + 1, hk => by
    have ih := clash_right h1 h2 h3 hl k (by omega)
    have hx := hl _ (mAt_mem (l := l) (k := k) (by omega))
    unfold clashL
    rw [if_neg, ih]
    unfold clB
    rw [Bool.not_eq_true, List.any_eq_false]
    intro y hy
    have := by_right h1 h2 h3 (hl y hy) hx.t0
    rw [← hx.tm] at this
    have := hx.o
    unfold ctr
    simp
    omega
theorem ClocksHaveRightTimes (c : Clock) (s r : Int) (ti of : List Int) (tick : Int) (hti : ti.length < 2 ^ 62) (hof : of.length < 2 ^ 62) : OkF Try.prog 3 [ckV c, .int .i64 s, .int .i64 r, rI ti, rI of, .int .i64 tick] (.bool true, []) := by
  refine OkF.W0 hm h3 (of_decide_eq_true rfl) ?_
  unfold c3
  have e62 := Go.Ex.e62
  simp -dsimp
  refine call_pure (CheckClock_ok c) (by simp) rfl ?_
  simp -dsimp
  by_cases g0 : clockE c = 0
  rotate_left
  · simp -dsimp [g0]
    refine call_pure awake2_ok (by simp) rfl ?_
    simp -dsimp
  by_cases g1 : r < c.1
  · simp -dsimp [g0, g1]
    refine call_pure awake2_ok (by simp) rfl ?_
    simp -dsimp
  by_cases g2 : c.2 < r
  · simp -dsimp [g0, g1, g2]
    refine call_pure awake2_ok (by simp) rfl ?_
    simp -dsimp
  by_cases g3 : s < 0
  · simp -dsimp [g0, g1, g2, g3]
    refine call_pure awake2_ok (by simp) rfl ?_
    simp -dsimp
  by_cases g4 : 1000000000 < s
  · simp -dsimp [g0, g1, g2, g3, g4]
    refine call_pure awake2_ok (by simp) rfl ?_
    simp -dsimp
  by_cases g5 : ti.length = 0
  · have g5' : ti = [] := List.eq_nil_of_length_eq_zero g5
    simp -dsimp [g0, g1, g2, g3, g4, g5']
    refine call_pure awake2_ok (by simp) rfl ?_
    simp -dsimp
  have g5' : ¬ ti = [] := fun e => g5 (by rw [e]; rfl)
  by_cases g6 : of.length < ti.length
  · have g6' : (of.length : Int) < (ti.length : Int) := by omega
    simp -dsimp [g0, g1, g2, g3, g4, g5', g6, g6']
    refine call_pure awake2_ok (by simp) rfl ?_
    simp -dsimp
  have g6' : ¬ (of.length : Int) < (ti.length : Int) := by omega
  by_cases g7 : 50 < ti.length
  · have g7' : (50 : Int) < (ti.length : Int) := by omega
    simp -dsimp [g0, g1, g2, g3, g4, g5', g6, g6', g7']
    refine call_pure awake2_ok (by simp) rfl ?_
    simp -dsimp
  have g7' : ¬ (50 : Int) < (ti.length : Int) := by omega
  have hc := clock_good g0
  obtain ⟨c1, c2, c3, c4, c5⟩ := hc
  simp -dsimp [g0, g1, g2, g3, g4, g5', g6, g6', g7']
  refine loop_to 14 ti.length (fun k t => t.t 14 = .int .i64 k ∧ t.t 1 = .int .i64 s ∧ t.t 2 = .int .i64 r ∧ t.t 3 = rI ti ∧ t.t 4 = rI of ∧ t.t 5 = .int .i64 tick ∧ t.t 6 = .pt 0 0 0 ∧ t.h 0 = some ⟨0, 0, [.int .i64 c.1, .int .i64 c.2], none⟩ ∧ 1 ≤ t.nx ∧ Acc markCd t.h t.nx (t.t 13) (mkL s r ti of k) ∧ (∀ j, ownOf (t.t 13) = some j → 1 ≤ j) ∧ ∀ i, i < k → goodAt ti of i) (fun k t h => h.1) ?_ (fun k t hkl hI => ?_)
  · exact ⟨by simp -dsimp, by simp -dsimp, by simp -dsimp, by simp -dsimp, by simp -dsimp, by simp -dsimp, by simp -dsimp, by simp -dsimp, by simp -dsimp, by simp -dsimp [mkL, Acc.nil], fun j hj => by simp [ownOf] at hj, fun i hi => by omega⟩
  · obtain ⟨i14, i1, i2, i3, i4, i5, i6, h0, inx, hA, hown, hgood⟩ := hI
    by_cases hk : k < ti.length
    · have hlt' : (k : Int) < (ti.length : Int) := by omega
      have hg := get_lAt2 hk
      have hg' := get_lAt2 (c := of) (p := k) (by omega)
      have hgA : goodAt ti of k ↔ (0 ≤ lAt ti k ∧ lAt ti k ≤ 1000000 ∧ 0 ≤ lAt of k ∧ lAt of k ≤ 1000) := Iff.rfl
      have hmk : mkL s r ti of (k + 1) = mkL s r ti of k ++ [(lAt ti k, rt s r (lAt ti k), lAt of k + 1)] := rfl
      have hml := mkL_len s r ti of k
      have hw2 : IntKind.i64.wrap ((k : Int) + 1) = ((k + 1 : Nat) : Int) := by rw [IntWalk.i64_in _ (by omega)]; simp
      generalize lAt ti k = x at *
      generalize lAt of k = y at *
      unfold l3_0
      simp -dsimp [i14, i3, i4, hk, hlt', i_ia hg, i_ld hg]
      by_cases q1 : x < 0
      · simp -dsimp [q1]
        refine call_pure awake2_ok (by simp) rfl ?_
        simp -dsimp
      by_cases q2 : 1000000 < x
      · simp -dsimp [q1, q2, i14, i3, i_ia hg, i_ld hg]
        refine call_pure awake2_ok (by simp) rfl ?_
        simp -dsimp
      by_cases q3 : y < 0
      · simp -dsimp [q1, q2, q3, i14, i3, i4, i_ia hg, i_ld hg, i_ia hg', i_ld hg']
        refine call_pure awake2_ok (by simp) rfl ?_
        simp -dsimp
      by_cases q4 : 1000 < y
      · simp -dsimp [q1, q2, q3, q4, i14, i3, i4, i_ia hg, i_ld hg, i_ia hg', i_ld hg']
        refine call_pure awake2_ok (by simp) rfl ?_
        simp -dsimp
      have p1 : 0 ≤ x * r := Int.mul_nonneg (by omega) (by omega)
      have p2 : x * r ≤ 1000000 * 1000000 := Int.le_trans (Int.mul_le_mul_of_nonneg_right (show x ≤ 1000000 by omega) (by omega)) (Int.mul_le_mul_of_nonneg_left (by omega) (by omega))
      have w1 : IntKind.i64.wrap (x * r) = x * r := w_i64 (by omega) (by omega)
      have w2 : (x * r).tdiv 1000000 = x * r / 1000000 := tdiv_nn p1
      have w3 : IntKind.i64.wrap (x * r / 1000000) = x * r / 1000000 := w_i64 (by omega) (by omega)
      have w4 : IntKind.i64.wrap (s + x * r / 1000000) = rt s r x := w_i64 (by omega) (by omega)
      have w5 : IntKind.i64.wrap (y + 1) = y + 1 := w_i64 (by omega) (by omega)
      simp -dsimp [q1, q2, q3, q4, i14, i1, i2, i3, i4, i_ia hg, i_ld hg, i_ia hg', i_ld hg', w1, w2, w3, w4, w5, fillS, fillA]
      refine push_accW (x := (x, rt s r x, y + 1)) hA rfl rfl (by omega) (by omega) fun v' h' nx' ix b1 b2 b3 b4 _ _ => ?_
      simp -dsimp [i14, hw2, i1, i2, i3, i4, i5, i6]
      refine ⟨hk, ?_, by omega, by rw [hmk]; exact b1, fun j hj => ?_, fun i hi => ?_⟩
      · rw [b3 0 (by omega) (fun e => by have := hown 0 e; omega), h0]
      · rcases b4 j hj with e | e
        · exact hown j e
        · omega
      · by_cases hik : i = k
        · subst hik
          exact hgA.2 ⟨by omega, by omega, by omega, by omega⟩
        · exact hgood i (by omega)
    · have hkl : k = ti.length := by omega
      subst hkl
      have hR := mkL_right (s := s) (r := r) hgood
      have hml := mkL_len s r ti of ti.length
      generalize mkL s r ti of ti.length = m at *
      have hro : toRO t.h 8 (t.t 13) = some (rM m) := hA.ro
      unfold l3_0
      simp -dsimp [i14, i3, hro]
      refine call_int (CheckMarks_ok m) ?_
      simp -dsimp
      by_cases q1 : marksE m = 0
      rotate_left
      · simp -dsimp [q1]
        refine call_pure awake2_ok (by simp) rfl ?_
        simp -dsimp
      by_cases q2 : tick < 0
      · simp -dsimp [q1, q2, i5]
        refine call_pure awake2_ok (by simp) rfl ?_
        simp -dsimp
      by_cases q3 : 1000000 < tick
      · simp -dsimp [q1, q2, q3, i5]
        refine call_pure awake2_ok (by simp) rfl ?_
        simp -dsimp
      have hp : 0 < m.length := by omega
      have hW := win_right (c := c) (t := tick) c1 (by omega) (by omega) hp hR (by omega) m.length (Nat.le_refl _)
      have hC := clash_right (c := c) c1 (by omega) (by omega) hR m.length (Nat.le_refl _)
      have hwE : winE c m tick = 0 := by
        unfold winE
        rw [if_neg (by simpa using g0), if_neg (by simpa using q1), if_neg (by simp [inB]; omega)]
      have hwS : winS c m tick = ((winN c m tick m.length).1, (winN c m tick m.length).2, 0) := by
        unfold winS
        rw [if_neg (by simpa using hwE), if_neg (by omega)]
      have hcS : clashS c m = ([], 0) := by
        unfold clashS
        rw [if_neg (by simpa using g0), if_neg (by simpa using q1), hC]
      have hwin := Window_ok c m tick
      have hcla := Clashes_ok c m
      rw [hwS] at hwin
      rw [hcS] at hcla
      have p1 : 0 ≤ tick * r := Int.mul_nonneg (by omega) (by omega)
      have p2 : tick * r ≤ 1000000 * 1000000 := Int.le_trans (Int.mul_le_mul_of_nonneg_right (show tick ≤ 1000000 by omega) (by omega)) (Int.mul_le_mul_of_nonneg_left (by omega) (by omega))
      have w1 : IntKind.i64.wrap (tick * r) = tick * r := w_i64 (by omega) (by omega)
      have w2 : (tick * r).tdiv 1000000 = tick * r / 1000000 := tdiv_nn p1
      have w3 : IntKind.i64.wrap (tick * r / 1000000) = tick * r / 1000000 := w_i64 (by omega) (by omega)
      have w4 : IntKind.i64.wrap (s + tick * r / 1000000) = rt s r tick := w_i64 (by omega) (by omega)
      generalize winN c m tick m.length = w at *
      simp -dsimp [q1, q2, q3, i5, i6, h0, hro]
      refine call_one hwin (by simp [okRes, roFree, roFreeL]) ?_
      simp -dsimp [i6, h0, hro]
      have hrf : roFree (.tup [rI ([] : List Int), .int .i64 0]) = true := rfl
      refine call_one hcla (by simp only [okRes, hrf]; simp) ?_
      simp -dsimp [i1, i2, i5, w1, w2, w3, w4, hW.1, hW.2]
      refine call_pure awake2_ok (by simp) rfl ?_
      simp -dsimp
end Go.Proofs.P3
