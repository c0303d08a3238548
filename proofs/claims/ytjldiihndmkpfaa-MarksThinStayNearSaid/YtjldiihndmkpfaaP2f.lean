/- A division of two words by one. -/
import Derived.Test.YtjldiihndmkpfaaP2e
set_option linter.unusedVariables false
set_option linter.unusedSimpArgs false
set_option maxRecDepth 10000
set_option maxHeartbeats 8000000
namespace Go.Proofs.P3
open Go.Ex
theorem lead_ok {y : Int} (h0 : 1 ≤ y) (h1 : y < 18446744073709551616) :
    ∃ s : Nat, s ≤ 63 ∧ OkF Try.prog 147 [uV y] (.int .i64 s, []) ∧ 9223372036854775808 ≤ y * 2 ^ s ∧ y * 2 ^ s < 18446744073709551616 := by
  obtain ⟨n, i, hn, hi, i0, i1, e⟩ := len_ok h0 h1
  obtain ⟨s, hs, h2, h3, h4⟩ := leaf hn hi i0 i1
  refine ⟨s, hs, ?_, h3, h4⟩
  refine OkF.W0 hm h147 (of_decide_eq_true rfl) ?_
  unfold c147
  have hw : IntKind.i64.wrap (s : Int) = s := w_i64 (by omega) (by omega)
  simp -dsimp
  refine call_pure e (by simp) rfl ?_
  simp -dsimp [h2, hw]
structure DigI (x2 s y1 y0 u d Q : Int) (q r : Int) (t : St) : Prop where
  g : Guess u d y1 y0 q r Q
  i15 : t.t 15 = uV q
  i16 : t.t 16 = uV r
theorem div_zero {lo y : Int} (hl : 0 ≤ lo ∧ lo < 18446744073709551616) (hy0 : 0 < y) (hy : y < 18446744073709551616) :
    OkF Try.prog 137 [uV 0, uV lo, uV y] (.tup [uV (lo / y), uV (lo % y)], []) := by
  refine OkF.W0 hm h137 (of_decide_eq_true rfl) ?_
  unfold c137
  have n0 : ¬ y = 0 := by omega
  have n1 : ¬ y ≤ 0 := by omega
  have a := Int.ediv_le_self y hl.1
  have b := Int.ediv_nonneg hl.1 (show 0 ≤ y by omega)
  have e1 : IntKind.u64.wrap (lo.tdiv y) = lo / y := by rw [Int.tdiv_eq_ediv_of_nonneg hl.1, u64w b (by omega)]
  have e2 : lo.tmod y = lo % y := Int.tmod_eq_emod_of_nonneg hl.1
  simp -dsimp [n0, n1, e1, e2]
def DI (hi lo x2 s y1 y0 u v1 v0 Q : Int) (n : Nat) (t : St) : Prop := ∃ q r : Int, n = (4294967296 - r).toNat ∧ Guess u v1 y1 y0 q r Q ∧ t.t 15 = uV q ∧ t.t 16 = uV r ∧ t.t 2 = uV x2 ∧ t.t 8 = uV s ∧ t.t 9 = uV y1 ∧ t.t 10 = uV y0 ∧ t.t 11 = uV u ∧ t.t 13 = uV v1 ∧ t.t 14 = uV v0
def DO (x2 s y1 y0 u v1 v0 Q : Int) (e : E) (t : St) : Prop := e = .exit 0 ∧ t.t 15 = uV Q ∧ t.t 2 = uV x2 ∧ t.t 8 = uV s ∧ t.t 9 = uV y1 ∧ t.t 10 = uV y0 ∧ t.t 11 = uV u ∧ t.t 13 = uV v1 ∧ t.t 14 = uV v0
theorem dig0 {hi lo x2 s y1 y0 u v1 v0 Q : Int} {n : Nat} {t : St} (h : DI hi lo x2 s y1 y0 u v1 v0 Q n t) : LP Try.prog l137_0 (DO x2 s y1 y0 u v1 v0 Q) t ⟨⟩ ⟨⟩ := by
  refine loop_dec (DI hi lo x2 s y1 y0 u v1 v0 Q) n h (fun n t hI => ?_)
  obtain ⟨q, r, hn, g, i15, i16, i2, i8, i9, i10, i11, i13, i14⟩ := hI
  have h1 := g.hy1; have h2 := g.hr; have h3 := g.hQ; have h4 := g.hqB; have h5 := g.hqQ
  have hbig := g.big
  have w1 : IntKind.u64.wrap (r + y1) = r + y1 := u64w (by omega) (by omega)
  have hout : ∀ t' : St, t'.t 15 = uV Q → t'.t 2 = uV x2 → t'.t 8 = uV s → t'.t 9 = uV y1 → t'.t 10 = uV y0 → t'.t 11 = uV u → t'.t 13 = uV v1 → t'.t 14 = uV v0 → DO x2 s y1 y0 u v1 v0 Q (.exit 0) t' := fun t' a1 a2 a3 a4 a5 a6 a7 a8 => ⟨rfl, a1, a2, a3, a4, a5, a6, a7, a8⟩
  unfold l137_0
  have step : Q < q → ∀ t' : St, t'.t 15 = uV (q - 1) → t'.t 16 = uV (r + y1) → t'.t 2 = uV x2 → t'.t 8 = uV s → t'.t 9 = uV y1 → t'.t 10 = uV y0 → t'.t 11 = uV u → t'.t 13 = uV v1 → t'.t 14 = uV v0 → r + y1 < 4294967296 → ∃ m, m < n ∧ DI hi lo x2 s y1 y0 u v1 v0 Q m t' := by
    intro hq t' a1 a2 a3 a4 a5 a6 a7 a8 a9 hb
    exact ⟨(4294967296 - (r + y1)).toNat, by omega, q - 1, r + y1, rfl, g.next hq hb, a1, a2, a3, a4, a5, a6, a7, a8, a9⟩
  by_cases hb : 4294967296 ≤ q
  · have hq : Q < q := by omega
    have w2 : IntKind.u64.wrap (q - 1) = q - 1 := u64w (by omega) (by omega)
    simp -dsimp [i15, hb, i16, i9, w1, w2]
    by_cases hb2 : 4294967296 ≤ r + y1
    · have hl := g.last hq (by omega)
      simp -dsimp [hb2]
      exact hout _ (by simp -dsimp [hl]) (by simp -dsimp [i2]) (by simp -dsimp [i8]) (by simp -dsimp [i9]) (by simp -dsimp [i10]) (by simp -dsimp [i11]) (by simp -dsimp [i13]) (by simp -dsimp [i14])
    · simp -dsimp [hb2]
      exact step hq _ (by simp -dsimp) (by simp -dsimp) (by simp -dsimp [i2]) (by simp -dsimp [i8]) (by simp -dsimp [i9]) (by simp -dsimp [i10]) (by simp -dsimp [i11]) (by simp -dsimp [i13]) (by simp -dsimp [i14]) (by omega)
  · obtain ⟨w3, w4⟩ := g.wraps hb
    simp -dsimp [i15, hb, i10, i16, i13, w3, w4]
    by_cases hc : 4294967296 * r + v1 < q * y0
    · have hq : Q < q := hbig.1 (.inr hc)
      have w2 : IntKind.u64.wrap (q - 1) = q - 1 := u64w (by omega) (by omega)
      simp -dsimp [hc, i15, i16, i9, w1, w2]
      by_cases hb2 : 4294967296 ≤ r + y1
      · have hl := g.last hq (by omega)
        simp -dsimp [hb2]
        exact hout _ (by simp -dsimp [hl]) (by simp -dsimp [i2]) (by simp -dsimp [i8]) (by simp -dsimp [i9]) (by simp -dsimp [i10]) (by simp -dsimp [i11]) (by simp -dsimp [i13]) (by simp -dsimp [i14])
      · simp -dsimp [hb2]
        exact step hq _ (by simp -dsimp) (by simp -dsimp) (by simp -dsimp [i2]) (by simp -dsimp [i8]) (by simp -dsimp [i9]) (by simp -dsimp [i10]) (by simp -dsimp [i11]) (by simp -dsimp [i13]) (by simp -dsimp [i14]) (by omega)
    · have hq : q = Q := by
        have : ¬ Q < q := fun h => by rcases hbig.2 h with h | h <;> omega
        omega
      simp -dsimp [hc]
      exact hout _ (by simp -dsimp [i15, hq]) (by simp -dsimp [i2]) (by simp -dsimp [i8]) (by simp -dsimp [i9]) (by simp -dsimp [i10]) (by simp -dsimp [i11]) (by simp -dsimp [i13]) (by simp -dsimp [i14])
def DJ (x2 s y1 y0 u v0 q1 Q : Int) (n : Nat) (t : St) : Prop := ∃ q r : Int, n = (4294967296 - r).toNat ∧ Guess u v0 y1 y0 q r Q ∧ t.t 18 = uV q ∧ t.t 16 = uV r ∧ t.t 2 = uV x2 ∧ t.t 8 = uV s ∧ t.t 9 = uV y1 ∧ t.t 10 = uV y0 ∧ t.t 17 = uV u ∧ t.t 15 = uV q1 ∧ t.t 14 = uV v0
def DP (x2 s y1 y0 u v0 q1 Q : Int) (e : E) (t : St) : Prop := e = .exit 2 ∧ t.t 18 = uV Q ∧ t.t 2 = uV x2 ∧ t.t 8 = uV s ∧ t.t 17 = uV u ∧ t.t 15 = uV q1 ∧ t.t 14 = uV v0
theorem dig1 {x2 s y1 y0 u v0 q1 Q : Int} {n : Nat} {t : St} (h : DJ x2 s y1 y0 u v0 q1 Q n t) : LP Try.prog l137_1 (DP x2 s y1 y0 u v0 q1 Q) t ⟨⟩ ⟨⟩ := by
  refine loop_dec (DJ x2 s y1 y0 u v0 q1 Q) n h (fun n t hI => ?_)
  obtain ⟨q, r, hn, g, i18, i16, i2, i8, i9, i10, i17, i15, i14⟩ := hI
  have h1 := g.hy1; have h2 := g.hr; have h3 := g.hQ; have h4 := g.hqB; have h5 := g.hqQ
  have hbig := g.big
  have w1 : IntKind.u64.wrap (r + y1) = r + y1 := u64w (by omega) (by omega)
  have hout : ∀ t' : St, t'.t 18 = uV Q → t'.t 2 = uV x2 → t'.t 8 = uV s → t'.t 17 = uV u → t'.t 15 = uV q1 → t'.t 14 = uV v0 → DP x2 s y1 y0 u v0 q1 Q (.exit 2) t' := fun t' a1 a2 a3 a4 a5 a6 => ⟨rfl, a1, a2, a3, a4, a5, a6⟩
  unfold l137_1
  have step : Q < q → ∀ t' : St, t'.t 18 = uV (q - 1) → t'.t 16 = uV (r + y1) → t'.t 2 = uV x2 → t'.t 8 = uV s → t'.t 9 = uV y1 → t'.t 10 = uV y0 → t'.t 17 = uV u → t'.t 15 = uV q1 → t'.t 14 = uV v0 → r + y1 < 4294967296 → ∃ m, m < n ∧ DJ x2 s y1 y0 u v0 q1 Q m t' := by
    intro hq t' a1 a2 a3 a4 a5 a6 a7 a8 a9 hb
    exact ⟨(4294967296 - (r + y1)).toNat, by omega, q - 1, r + y1, rfl, g.next hq hb, a1, a2, a3, a4, a5, a6, a7, a8, a9⟩
  by_cases hb : 4294967296 ≤ q
  · have hq : Q < q := by omega
    have w2 : IntKind.u64.wrap (q - 1) = q - 1 := u64w (by omega) (by omega)
    simp -dsimp [i18, hb, i16, i9, w1, w2]
    by_cases hb2 : 4294967296 ≤ r + y1
    · have hl := g.last hq (by omega)
      simp -dsimp [hb2]
      exact hout _ (by simp -dsimp [hl]) (by simp -dsimp [i2]) (by simp -dsimp [i8]) (by simp -dsimp [i17]) (by simp -dsimp [i15]) (by simp -dsimp [i14])
    · simp -dsimp [hb2]
      exact step hq _ (by simp -dsimp) (by simp -dsimp) (by simp -dsimp [i2]) (by simp -dsimp [i8]) (by simp -dsimp [i9]) (by simp -dsimp [i10]) (by simp -dsimp [i17]) (by simp -dsimp [i15]) (by simp -dsimp [i14]) (by omega)
  · obtain ⟨w3, w4⟩ := g.wraps hb
    simp -dsimp [i18, hb, i10, i16, i14, w3, w4]
    by_cases hc : 4294967296 * r + v0 < q * y0
    · have hq : Q < q := hbig.1 (.inr hc)
      have w2 : IntKind.u64.wrap (q - 1) = q - 1 := u64w (by omega) (by omega)
      simp -dsimp [hc, i18, i16, i9, w1, w2]
      by_cases hb2 : 4294967296 ≤ r + y1
      · have hl := g.last hq (by omega)
        simp -dsimp [hb2]
        exact hout _ (by simp -dsimp [hl]) (by simp -dsimp [i2]) (by simp -dsimp [i8]) (by simp -dsimp [i17]) (by simp -dsimp [i15]) (by simp -dsimp [i14])
      · simp -dsimp [hb2]
        exact step hq _ (by simp -dsimp) (by simp -dsimp) (by simp -dsimp [i2]) (by simp -dsimp [i8]) (by simp -dsimp [i9]) (by simp -dsimp [i10]) (by simp -dsimp [i17]) (by simp -dsimp [i15]) (by simp -dsimp [i14]) (by omega)
    · have hq : q = Q := by
        have : ¬ Q < q := fun h => by rcases hbig.2 h with h | h <;> omega
        omega
      simp -dsimp [hc]
      exact hout _ (by simp -dsimp [i18, hq]) (by simp -dsimp [i2]) (by simp -dsimp [i8]) (by simp -dsimp [i17]) (by simp -dsimp [i15]) (by simp -dsimp [i14])
end Go.Proofs.P3
