/- A division of two words by one, whole; the nearest number of both sides. -/
import Derived.Test.YtjldiihndmkpfaaP2f
set_option linter.unusedVariables false
set_option linter.unusedSimpArgs false
set_option maxRecDepth 10000
set_option maxHeartbeats 8000000
namespace Go.Proofs.P3
open Go.Ex
theorem div_ok {hi lo y : Int} (hh : 0 ≤ hi ∧ hi < y) (hl : 0 ≤ lo ∧ lo < 18446744073709551616) (hy : y < 18446744073709551616) :
    OkF Try.prog 137 [uV hi, uV lo, uV y] (.tup [uV ((hi * 18446744073709551616 + lo) / y), uV ((hi * 18446744073709551616 + lo) % y)], []) := by
  by_cases z : hi = 0
  · subst z
    have := div_zero hl (by omega) hy
    rwa [Int.zero_mul, Int.zero_add]
  obtain ⟨s, hs, hz, y0, y1⟩ := lead_ok (y := y) (by omega) hy
  have ws : IntKind.u64.wrap (s : Int) = s := u64w (by omega) (by omega)
  have ws2 : IntKind.u64.wrap (64 - (s : Int)) = ((64 - s : Nat) : Int) := by rw [u64w (by omega) (by omega)]; omega
  have fy := U_shl (k := .u64) (x := y) s (by omega)
  have fh := U_shl (k := .u64) (x := hi) s (by omega)
  have fl := U_shl (k := .u64) (x := lo) s (by omega)
  have fr := U_shr (k := .u64) (x := lo) (64 - s) (by omega)
  have fz : ∀ x : Int, binA .shr (.int .u64 x) (.int .u64 (s : Int)) = some (.int .u64 (x / 2 ^ s)) := fun x => U_shr s (by omega)
  simp only [IntKind.wrap_u64] at fy fh fl
  have pp : (2 : Int) ^ s * 2 ^ (64 - s) = 18446744073709551616 := by rw [← Int.pow_add, show s + (64 - s) = 64 by omega]; rfl
  have p0 : (0 : Int) < 2 ^ s := Int.pow_pos (by decide)
  have q0 : (0 : Int) < 2 ^ (64 - s) := Int.pow_pos (by decide)
  generalize hp : (2 : Int) ^ s = p at *
  generalize hpp : (2 : Int) ^ (64 - s) = pq at *
  have lh := Int.mul_ediv_add_emod lo pq
  have ll0 := Int.emod_nonneg lo (show pq ≠ 0 by omega)
  have ll1 := Int.emod_lt_of_pos lo q0
  have lh0 := Int.ediv_nonneg hl.1 (show 0 ≤ pq by omega)
  generalize lo / pq = h at *
  generalize lo % pq = l at *
  have hlt : h < p := by
    refine Int.lt_of_not_ge fun hge => ?_
    have := Int.mul_le_mul_of_nonneg_left hge (show 0 ≤ pq by omega)
    have : pq * p = 18446744073709551616 := by rw [Int.mul_comm]; exact pp
    omega
  have lp0 : 0 ≤ l * p := Int.mul_nonneg ll0 (by omega)
  have lp1 : l * p < 18446744073709551616 := by
    have := Int.mul_lt_mul_of_pos_right ll1 p0
    rw [Int.mul_comm pq p, pp] at this
    exact this
  have elo : lo * p = h * 18446744073709551616 + l * p := by rw [← lh, ← pp]; grind
  have hip : (hi + 1) * p ≤ y * p := Int.mul_le_mul_of_nonneg_right (by omega) (by omega)
  have hip' : (hi + 1) * p = hi * p + p := by grind
  have hi0 : 0 ≤ hi * p := Int.mul_nonneg hh.1 (by omega)
  rw [elo, show (h * 18446744073709551616 + l * p) % 18446744073709551616 = l * p by omega] at fl
  rw [show hi * p % 18446744073709551616 = hi * p by omega] at fh
  rw [show y * p % 18446744073709551616 = y * p by omega] at fy
  have ej : Go.bits .or .u64 (hi * p) h = hi * p + h := by
    rw [← hp]
    exact bits_join .u64 64 (by decide) wr_u64 s _ _ (by rw [hp]; exact hi0) (Int.mul_emod_left _ _) (by rw [hp]; omega) lh0 (by rw [hp]; exact hlt) (by omega)
  have fo : binA .or (.int .u64 (hi * p)) (.int .u64 h) = some (.int .u64 (hi * p + h)) := by
    rw [i_or]
    exact congrArg (fun x => some (V.int .u64 x)) ej
  have eN : (hi * p + h) * 18446744073709551616 + l * p = p * (hi * 18446744073709551616 + lo) := by
    have : p * (hi * 18446744073709551616 + lo) = hi * p * 18446744073709551616 + lo * p := by grind
    rw [this, elo]; omega
  generalize hx2 : y * p = x2 at *
  generalize hu0 : hi * p = u0 at *
  generalize hu : u0 + h = u at *
  have hw : 0 ≤ l * p ∧ l * p < 18446744073709551616 := ⟨lp0, lp1⟩
  generalize l * p = v at *
  have hu' : 0 ≤ u ∧ u < x2 := by omega
  have f1 := U_low (x := x2) (by omega) (by omega)
  have f2 := U_32 (k := .u64) x2
  have f3 := U_low (x := v) (by omega) (by omega)
  have f4 := U_32 (k := .u64) v
  have ex2 : x2 / 4294967296 * 4294967296 + x2 % 4294967296 = x2 := by omega
  have ev : v / 4294967296 * 4294967296 + v % 4294967296 = v := by omega
  have r1 : 2147483648 ≤ x2 / 4294967296 ∧ x2 / 4294967296 < 4294967296 := by omega
  have r2 : 0 ≤ x2 % 4294967296 ∧ x2 % 4294967296 < 4294967296 := by omega
  have r3 : 0 ≤ v / 4294967296 ∧ v / 4294967296 < 4294967296 := by omega
  have r4 : 0 ≤ v % 4294967296 ∧ v % 4294967296 < 4294967296 := by omega
  generalize x2 / 4294967296 = a1 at *
  generalize x2 % 4294967296 = a0 at *
  generalize v / 4294967296 = v1 at *
  generalize v % 4294967296 = v0 at *
  -- a digit
  have dig : ∀ u d : Int, 0 ≤ u ∧ u < x2 → 0 ≤ d ∧ d < 4294967296 → ∃ Q q r : Int, Guess u d a1 a0 q r Q ∧ (0 ≤ Q ∧ Q < 4294967296) ∧ (0 ≤ u * 4294967296 + d - Q * x2 ∧ u * 4294967296 + d - Q * x2 < x2) ∧ binA .quo (.int .u64 u) (.int .u64 a1) = some (.int .u64 q) ∧ IntKind.u64.wrap (u - IntKind.u64.wrap (q * a1)) = r := by
    intro u d hu hd
    have g := Guess.first (u := u) (d := d) (y1 := a1) (y0 := a0) r1 r2 hd (by omega)
    rw [ex2] at g
    have gQ := g.hQ; have gQ0 := g.hQ0; have gQ1 := g.hQ1
    rw [ex2] at gQ0 gQ1
    have f := Int.mul_ediv_add_emod u a1
    have f0 := Int.ediv_nonneg hu.1 (show 0 ≤ a1 by omega)
    have f1 := g.hqB
    have f2 := g.hr
    have f3 := Int.mul_nonneg (show 0 ≤ a1 by omega) f0
    refine ⟨_, _, _, g, gQ, by omega, ?_, ?_⟩
    · rw [i_quo, if_neg (by omega), Int.tdiv_eq_ediv_of_nonneg hu.1, u64w f0 (by omega)]
    · rw [Int.mul_comm (u / a1), u64w (x := a1 * (u / a1)) (by omega) (by omega), u64w (by omega) (by omega)]
      omega
  obtain ⟨Q1, q1, g1r, g1, hQ1, hb1, fq1, fr1⟩ := dig u v1 hu' r3
  have e17 : IntKind.u64.wrap (IntKind.u64.wrap (IntKind.u64.wrap (u * 4294967296) + v1) - IntKind.u64.wrap (Q1 * x2)) = u * 4294967296 + v1 - Q1 * x2 := by
    simp only [IntKind.wrap_u64]; omega
  generalize hw21 : u * 4294967296 + v1 - Q1 * x2 = u2 at *
  obtain ⟨Q2, q2, g2r, g2, hQ2, hb2, fq2, fr2⟩ := dig u2 v0 hb1 r4
  have e0 : IntKind.u64.wrap (IntKind.u64.wrap (IntKind.u64.wrap (u2 * 4294967296) + v0) - IntKind.u64.wrap (Q2 * x2)) = u2 * 4294967296 + v0 - Q2 * x2 := by
    simp only [IntKind.wrap_u64]; omega
  have er : u2 * 4294967296 + v0 - Q2 * x2 = p * (hi * 18446744073709551616 + lo - (Q1 * 4294967296 + Q2) * y) := by
    have : p * (hi * 18446744073709551616 + lo - (Q1 * 4294967296 + Q2) * y) = p * (hi * 18446744073709551616 + lo) - (Q1 * 4294967296 + Q2) * (y * p) := by grind
    rw [this, ← eN, hx2, ← hw21]
    have : (Q1 * 4294967296 + Q2) * x2 = Q1 * x2 * 4294967296 + Q2 * x2 := by grind
    rw [this]
    omega
  have eQ : IntKind.u64.wrap (IntKind.u64.wrap (Q1 * 4294967296) + Q2) = Q1 * 4294967296 + Q2 := by rw [u64w (x := Q1 * 4294967296) (by omega) (by omega), u64w (by omega) (by omega)]
  have ed : (u2 * 4294967296 + v0 - Q2 * x2) / p = hi * 18446744073709551616 + lo - (Q1 * 4294967296 + Q2) * y := by rw [er, Int.mul_ediv_cancel_left _ (by omega)]
  have hb0 : 0 ≤ p * (hi * 18446744073709551616 + lo - (Q1 * 4294967296 + Q2) * y) := by rw [← er]; omega
  have hb1' : p * (hi * 18446744073709551616 + lo - (Q1 * 4294967296 + Q2) * y) < p * y := by rw [← er, Int.mul_comm p y, hx2]; omega
  have rr0 : 0 ≤ hi * 18446744073709551616 + lo - (Q1 * 4294967296 + Q2) * y := Int.le_of_mul_le_mul_left (by rw [Int.mul_zero]; exact hb0) p0
  have rr1 : hi * 18446744073709551616 + lo - (Q1 * 4294967296 + Q2) * y < y := Int.lt_of_mul_lt_mul_left hb1' (by omega)
  obtain ⟨k1, k2⟩ := div_unique (n := hi * 18446744073709551616 + lo) (y := y) (q := Q1 * 4294967296 + Q2) (by omega) rr0 rr1
  rw [← k1, ← k2]
  rw [← ed]
  generalize hi * 18446744073709551616 + lo - (Q1 * 4294967296 + Q2) * y = rest at *
  have n0 : ¬ y = 0 := by omega
  have n1 : ¬ y ≤ hi := by omega
  clear er ed hb0 hb1' rr0 rr1 k1 k2 eN elo hip hip' dig
  refine OkF.W0 hm h137 (of_decide_eq_true rfl) ?_
  unfold c137
  simp -dsimp [n0, n1, z]
  refine call_pure hz (by simp) rfl ?_
  simp -dsimp [-i_shl, -i_shr, -i_and, -i_or, -i_quo, ws, ws2, fy, fh, fl, fr, fo, f1, f2, f3, f4, hu, fq1, fr1]
  refine LP_cut (DO x2 s a1 a0 u v1 v0 Q1) (dig0 (hi := hi) (lo := lo) ⟨q1, g1r, rfl, g1, by simp -dsimp, by simp -dsimp, by simp -dsimp, by simp -dsimp, by simp -dsimp, by simp -dsimp, by simp -dsimp, by simp -dsimp, by simp -dsimp⟩) ?_
  rintro e t ⟨rfl, i15, i2, i8, i9, i10, i11, i13, i14⟩
  simp -dsimp [-i_shl, -i_shr, -i_and, -i_or, -i_quo, i15, i2, i8, i9, i10, i11, i13, i14, e17, fq2, fr2]
  refine LP_cut (DP x2 s a1 a0 u2 v0 Q1 Q2) (dig1 ⟨q2, g2r, rfl, g2, by simp -dsimp, by simp -dsimp, by simp -dsimp [i2], by simp -dsimp [i8], by simp -dsimp [i9], by simp -dsimp [i10], by simp -dsimp, by simp -dsimp [i15], by simp -dsimp [i14]⟩) ?_
  rintro e t ⟨rfl, i18, i2, i8, i17, i15, i14⟩
  simp -dsimp [-i_shl, -i_shr, -i_and, -i_or, -i_quo, i15, i2, i8, i18, i17, i14, e0, eQ, fz]
end Go.Proofs.P3
