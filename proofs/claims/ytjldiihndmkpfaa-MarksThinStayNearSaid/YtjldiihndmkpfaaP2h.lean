/- The nearest number of both sides. -/
import Derived.Test.YtjldiihndmkpfaaP2g
set_option linter.unusedVariables false
set_option linter.unusedSimpArgs false
set_option maxRecDepth 10000
set_option maxHeartbeats 8000000
namespace Go.Proofs.P3
open Go.Ex
theorem big_q {p d : Int} (hd : 1 ≤ d) (h : d ≤ p / 18446744073709551616) : 4611686018427387904 ≤ p / d := by
  have m := Int.mul_ediv_add_emod p d
  have m1 := Int.emod_lt_of_pos p (show 0 < d by omega)
  refine Int.le_of_not_gt fun h => ?_
  have := Int.mul_le_mul_of_nonneg_left (show p / d ≤ 4611686018427387903 by omega) (show 0 ≤ d by omega)
  omega
theorem dv_ok {p d : Int} (h0 : 0 ≤ p) (hd0 : 1 ≤ d) (hd1 : d ≤ 1000000000000) (h : ¬ d ≤ p / 18446744073709551616) : OkF Try.prog 137 [uV (p / 18446744073709551616), uV (p % 18446744073709551616), uV d] (.tup [uV (p / d), uV (p % d)], []) := by
  have e := div_ok (hi := p / 18446744073709551616) (lo := p % 18446744073709551616) (y := d) (by omega) (by omega) (by omega)
  rwa [show p / 18446744073709551616 * 18446744073709551616 + p % 18446744073709551616 = p by omega] at e
theorem Nearest_ok {a b d : Int} (ha0 : -1000000000000 ≤ a) (ha1 : a ≤ 1000000000000) (hb0 : 1 ≤ b) (hb1 : b ≤ 1000000000000) (hd0 : 1 ≤ d) (hd1 : d ≤ 1000000000000) :
    OkF Try.prog 118 [.int .i64 a, .int .i64 b, .int .i64 d] (.int .i64 (nearS a b d), []) := by
  refine OkF.W0 hm h118 (of_decide_eq_true rfl) ?_
  unfold c118
  have nb : ¬ b < 0 := by omega
  have eb : amt b = b := by unfold amt; rw [if_neg nb]
  have ca := amount_ok (a := a) (by omega) (by omega)
  have cb := amount_ok (a := b) (by omega) (by omega)
  rw [eb] at cb
  have wd : IntKind.u64.wrap d = d := u64w (by omega) (by omega)
  by_cases ha : a < 0
  · have ea : amt a = -a := by unfold amt; rw [if_pos ha]
    rw [ea] at ca
    have hn : nearS a b d = -rndDown (-a * b) d := by unfold nearS; rw [if_pos ha]
    obtain ⟨pp0, pp1⟩ := mul_bound (a := -a) (b := b) (n := 1000000000000) (m := 1000000000000) (by omega) (by omega) (by omega) (by omega)
    have cm := mul_ok (x := -a) (y := b) (by omega) (by omega) (by omega) (by omega)
    simp -dsimp [ha, nb]
    refine call_pure ca (by simp) rfl ?_
    simp -dsimp
    refine call_pure cb (by simp) rfl ?_
    simp -dsimp
    refine call_pure cm (by simp) rfl ?_
    generalize -a * b = p at *
    have hbig := big_q (p := p) hd0
    have hdv := dv_ok (p := p) pp0 hd0 hd1
    have q0 : 0 ≤ p / d := Int.ediv_nonneg pp0 (by omega)
    have q1 : 0 ≤ p % d := Int.emod_nonneg p (by omega)
    have q2 : p % d < d := Int.emod_lt_of_pos p (by omega)
    simp -dsimp [wd]
    by_cases c1 : d ≤ p / 18446744073709551616
    · have e : nearS a b d = -4611686018427387904 := by rw [hn]; unfold rndDown; rw [if_pos (by have := hbig c1; omega)]
      simp -dsimp [c1, e]
    · simp -dsimp [c1, wd]
      refine call_pure (hdv c1) (by simp) rfl ?_
      unfold rndDown at hn
      generalize p / d = q at *
      generalize p % d = r at *
      simp -dsimp
      by_cases c2 : 4611686018427387903 ≤ q
      · have e : nearS a b d = -4611686018427387904 := by rw [hn, if_pos c2]
        simp -dsimp [c2, e]
      · have w1 : IntKind.u64.wrap (d - r) = d - r := u64w (by omega) (by omega)
        have w2 : IntKind.u64.wrap (q + 1) = q + 1 := u64w (by omega) (by omega)
        have w3 : IntKind.i64.wrap (q + 1) = q + 1 := w_i64 (by omega) (by omega)
        have w4 : IntKind.i64.wrap q = q := w_i64 (by omega) (by omega)
        have w5 : IntKind.i64.wrap (-(q + 1)) = -(q + 1) := w_i64 (by omega) (by omega)
        have w6 : IntKind.i64.wrap (-q) = -q := w_i64 (by omega) (by omega)
        rw [if_neg (show ¬ q ≥ 4611686018427387903 from c2)] at hn
        by_cases c3 : d - r < r
        · rw [if_pos (show r > d - r from c3)] at hn
          simp -dsimp [c2, wd, w1, c3, w2, w3, w5, hn]
        · rw [if_neg (show ¬ r > d - r from c3)] at hn
          simp -dsimp [c2, wd, w1, c3, w4, w6, hn]
  · have ea : amt a = a := by unfold amt; rw [if_neg ha]
    rw [ea] at ca
    have hn : nearS a b d = rndUp (a * b) d := by unfold nearS; rw [if_neg ha]
    obtain ⟨pp0, pp1⟩ := mul_bound (a := a) (b := b) (n := 1000000000000) (m := 1000000000000) (by omega) (by omega) (by omega) (by omega)
    have cm := mul_ok (x := a) (y := b) (by omega) (by omega) (by omega) (by omega)
    simp -dsimp [ha, nb]
    refine call_pure ca (by simp) rfl ?_
    simp -dsimp
    refine call_pure cb (by simp) rfl ?_
    simp -dsimp
    refine call_pure cm (by simp) rfl ?_
    generalize a * b = p at *
    have hbig := big_q (p := p) hd0
    have hdv := dv_ok (p := p) pp0 hd0 hd1
    have q0 : 0 ≤ p / d := Int.ediv_nonneg pp0 (by omega)
    have q1 : 0 ≤ p % d := Int.emod_nonneg p (by omega)
    have q2 : p % d < d := Int.emod_lt_of_pos p (by omega)
    simp -dsimp [wd]
    by_cases c1 : d ≤ p / 18446744073709551616
    · have e : nearS a b d = 4611686018427387904 := by rw [hn]; unfold rndUp; rw [if_pos (by have := hbig c1; omega)]
      simp -dsimp [c1, e]
    · simp -dsimp [c1, wd]
      refine call_pure (hdv c1) (by simp) rfl ?_
      unfold rndUp at hn
      generalize p / d = q at *
      generalize p % d = r at *
      simp -dsimp
      by_cases c2 : 4611686018427387903 ≤ q
      · have e : nearS a b d = 4611686018427387904 := by rw [hn, if_pos c2]
        simp -dsimp [c2, e]
      · have w1 : IntKind.u64.wrap (d - r) = d - r := u64w (by omega) (by omega)
        have w2 : IntKind.u64.wrap (q + 1) = q + 1 := u64w (by omega) (by omega)
        have w3 : IntKind.i64.wrap (q + 1) = q + 1 := w_i64 (by omega) (by omega)
        have w4 : IntKind.i64.wrap q = q := w_i64 (by omega) (by omega)
        rw [if_neg (show ¬ q ≥ 4611686018427387903 from c2)] at hn
        by_cases c3 : d - r ≤ r
        · rw [if_pos (show r ≥ d - r from c3)] at hn
          simp -dsimp [c2, wd, w1, c3, w2, w3, hn]
        · rw [if_neg (show ¬ r ≥ d - r from c3)] at hn
          simp -dsimp [c2, wd, w1, c3, w4, hn]
theorem divided_ok {a b d : Int} (ha0 : 0 ≤ a) (ha1 : a ≤ 1000000000000) (hb0 : 0 ≤ b) (hb1 : b ≤ 1000000000000) (hd0 : 1 ≤ d) (hd1 : d ≤ 1000000000000) :
    OkF Try.prog 148 [.int .i64 a, .int .i64 b, .int .i64 d] (.tup [.int .i64 (divR (a * b) d).1, .int .i64 (divR (a * b) d).2], []) := by
  refine OkF.W0 hm h148 (of_decide_eq_true rfl) ?_
  unfold c148
  have wa : IntKind.u64.wrap a = a := u64w (by omega) (by omega)
  have wb : IntKind.u64.wrap b = b := u64w (by omega) (by omega)
  have wd : IntKind.u64.wrap d = d := u64w (by omega) (by omega)
  obtain ⟨pp0, pp1⟩ := mul_bound (a := a) (b := b) (n := 1000000000000) (m := 1000000000000) (by omega) (by omega) (by omega) (by omega)
  have cm := mul_ok (x := a) (y := b) (by omega) (by omega) (by omega) (by omega)
  simp -dsimp [wa, wb]
  refine call_pure cm (by simp) rfl ?_
  generalize a * b = p at *
  have hbig := big_q (p := p) hd0
  have hdv := dv_ok (p := p) pp0 hd0 hd1
  have q0 : 0 ≤ p / d := Int.ediv_nonneg pp0 (by omega)
  have q1 : 0 ≤ p % d := Int.emod_nonneg p (by omega)
  have q2 : p % d < d := Int.emod_lt_of_pos p (by omega)
  have hn : divR p d = if 4611686018427387904 ≤ p / d then (4611686018427387904, 0) else (p / d, p % d) := rfl
  simp -dsimp [wd]
  by_cases c1 : d ≤ p / 18446744073709551616
  · rw [if_pos (hbig c1)] at hn
    simp -dsimp [c1, hn]
  · simp -dsimp [c1, wd]
    refine call_pure (hdv c1) (by simp) rfl ?_
    generalize p / d = q at *
    generalize p % d = r at *
    simp -dsimp
    by_cases c2 : 4611686018427387904 ≤ q
    · rw [if_pos c2] at hn
      simp -dsimp [c2, hn]
    · rw [if_neg c2] at hn
      have w3 : IntKind.i64.wrap r = r := w_i64 (by omega) (by omega)
      have w4 : IntKind.i64.wrap q = q := w_i64 (by omega) (by omega)
      simp -dsimp [c2, hn, w3, w4]
theorem divR_rng {p d : Int} (h0 : 0 ≤ p) (hd0 : 1 ≤ d) : 0 ≤ (divR p d).1 ∧ (divR p d).1 ≤ 4611686018427387904 ∧ 0 ≤ (divR p d).2 ∧ (divR p d).2 < d := by
  have q0 : 0 ≤ p / d := Int.ediv_nonneg h0 (by omega)
  have q1 : 0 ≤ p % d := Int.emod_nonneg p (by omega)
  have q2 : p % d < d := Int.emod_lt_of_pos p (by omega)
  unfold divR
  split
  · simp only; omega
  · simp only; omega
theorem nearestR_ok {a b d : Int} (ha0 : -1000000000000 ≤ a) (ha1 : a ≤ 1000000000000) (hb0 : 0 ≤ b) (hb1 : b ≤ 1000000000000) (hd0 : 1 ≤ d) (hd1 : d ≤ 1000000000000) :
    OkF Try.prog 138 [.int .i64 a, .int .i64 b, .int .i64 d] (.int .i64 (nearR a b d), []) := by
  refine OkF.W0 hm h138 (of_decide_eq_true rfl) ?_
  unfold c138
  by_cases ha : a < 0
  · have hn : nearR a b d = -(if d < 2 * (divR (-a * b) d).2 then (divR (-a * b) d).1 + 1 else (divR (-a * b) d).1) := by unfold nearR; rw [if_pos ha]
    have cd := divided_ok (a := -a) (b := b) (d := d) (by omega) (by omega) hb0 hb1 hd0 hd1
    obtain ⟨r1, r2, r3, r4⟩ := divR_rng (p := -a * b) (d := d) (Int.mul_nonneg (by omega) hb0) hd0
    have w0 : IntKind.i64.wrap (-a) = -a := w_i64 (by omega) (by omega)
    generalize divR (-a * b) d = z at *
    obtain ⟨q, r⟩ := z
    simp only at hn cd r1 r2 r3 r4
    have w1 : IntKind.i64.wrap (2 * r) = 2 * r := w_i64 (by omega) (by omega)
    have w2 : IntKind.i64.wrap (q + 1) = q + 1 := w_i64 (by omega) (by omega)
    have w3 : IntKind.i64.wrap (-(q + 1)) = -(q + 1) := w_i64 (by omega) (by omega)
    have w4 : IntKind.i64.wrap (-q) = -q := w_i64 (by omega) (by omega)
    simp -dsimp [ha, w0]
    refine call_pure cd (by simp) rfl ?_
    simp -dsimp [w1]
    by_cases c : d < 2 * r
    · rw [if_pos c] at hn
      simp -dsimp [c, w2, w3, hn]
    · rw [if_neg c] at hn
      simp -dsimp [c, w4, hn]
  · have hn : nearR a b d = if d ≤ 2 * (divR (a * b) d).2 then (divR (a * b) d).1 + 1 else (divR (a * b) d).1 := by unfold nearR; rw [if_neg ha]
    have cd := divided_ok (a := a) (b := b) (d := d) (by omega) (by omega) hb0 hb1 hd0 hd1
    obtain ⟨r1, r2, r3, r4⟩ := divR_rng (p := a * b) (d := d) (Int.mul_nonneg (by omega) hb0) hd0
    generalize divR (a * b) d = z at *
    obtain ⟨q, r⟩ := z
    simp only at hn cd r1 r2 r3 r4
    have w1 : IntKind.i64.wrap (2 * r) = 2 * r := w_i64 (by omega) (by omega)
    have w2 : IntKind.i64.wrap (q + 1) = q + 1 := w_i64 (by omega) (by omega)
    simp -dsimp [ha]
    refine call_pure cd (by simp) rfl ?_
    simp -dsimp [w1]
    by_cases c : d ≤ 2 * r
    · rw [if_pos c] at hn
      simp -dsimp [c, w2, hn]
    · rw [if_neg c] at hn
      simp -dsimp [c, hn]
theorem through_ok {m : List Mark} (g : Good m) {i : Nat} (hi : i + 1 < m.length) {tick : Int} (h0 : 0 ≤ tick) (h1 : tick ≤ 1000000000000) :
    OkF Try.prog 119 [mkV (mAt m i), mkV (mAt m (i + 1)), .int .i64 tick] (.int .i64 (segR m i tick), []) := by
  refine OkF.W0 hm h119 (of_decide_eq_true rfl) ?_
  unfold c119 segR
  have hs := g.inc i (i + 1) (by omega) hi
  obtain ⟨⟨a1, a2⟩, ⟨a3, a4⟩, _⟩ := g.ok i (by omega)
  obtain ⟨⟨b1, b2⟩, ⟨b3, b4⟩, _⟩ := g.ok (i + 1) hi
  generalize mAt m i = x at *
  generalize mAt m (i + 1) = y at *
  have w1 : IntKind.i64.wrap (tick - x.1) = tick - x.1 := w_i64 (by omega) (by omega)
  have w2 : IntKind.i64.wrap (y.2.1 - x.2.1) = y.2.1 - x.2.1 := w_i64 (by omega) (by omega)
  have w3 : IntKind.i64.wrap (y.1 - x.1) = y.1 - x.1 := w_i64 (by omega) (by omega)
  have hr := near_rng (a := tick - x.1) (b := y.2.1 - x.2.1) (d := y.1 - x.1) (by omega) (by omega)
  have cn := nearestR_ok (a := tick - x.1) (b := y.2.1 - x.2.1) (d := y.1 - x.1) (by omega) (by omega) (by omega) (by omega) (by omega) (by omega)
  simp -dsimp [w1, w2, w3]
  refine call_pure cn (by simp) rfl ?_
  generalize nearR _ _ _ = z at *
  have w4 : IntKind.i64.wrap (x.2.1 + z) = x.2.1 + z := w_i64 (by omega) (by omega)
  simp -dsimp [w4]
end Go.Proofs.P3
