/- Words of 64 bits: products, lengths, quotients; A division of two words by one; A division of two words by one, whole; the nearest number of both sides; The nearest number of both sides; The time at a tick, the tick of a time; both sides; TimeOf and TickOf of both sides; Rates of both sides; the law of marks; Rates of both sides; the law of marks; Rates of the reference; the law of marks. -/
import Derived.Test.YtjldiihndmkpfaaP2m
import Derived.Test.YtjldiihndmkpfaaP2E
import Derived.Test.YtjldiihndmkpfaaP2c
section
set_option linter.unusedVariables false
set_option linter.unusedSimpArgs false
set_option maxRecDepth 10000
set_option maxHeartbeats 8000000
namespace Go.Proofs.P3
open Go.Ex
theorem LP_cut {P : Program} {C : Cmd} {Q : E → St → Prop} {s : St} (Q' : E → St → Prop) (h : LP P C Q' s ⟨⟩ ⟨⟩) (hQ : ∀ e s', Q' e s' → Q e s') : LP P C Q s ⟨⟩ ⟨⟩ := by
  obtain ⟨I, ν, h0, hr⟩ := h
  refine ⟨I, ν, h0, fun s hs => wpA_mono C (fun e s' he => ?_) (hr s hs)⟩
  cases e with
  | norm => exact he
  | exit j => exact hQ _ _ he
  | ret => exact hQ _ _ he
abbrev uV (x : Int) : V := .int .u64 x
theorem U_low {x : Int} (h0 : 0 ≤ x) (h1 : x < 18446744073709551616) : binA .and (.int .u64 x) (.int .u64 4294967295) = some (.int .u64 (x % 4294967296)) := by
  rw [i_and]
  exact congrArg (fun x => some (V.int .u64 x)) (bits_mask .u64 64 (by decide) wr_u64 32 (by decide) x h0 h1)
theorem U_shr {k : IntKind} {x : Int} (j : Nat) (hj : j ≤ 64) : binA .shr (.int .u64 x) (.int k (j : Int)) = some (.int .u64 (x / 2 ^ j)) := by
  rw [i_shr, if_neg (by omega), Int.toNat_natCast, Nat.min_eq_left (by simp only [IntKind.bits]; omega), Int.fdiv_eq_ediv_of_nonneg _ (by rw [← pow_cast]; exact Int.natCast_nonneg _)]
theorem U_shl {k : IntKind} {x : Int} (j : Nat) (hj : j ≤ 64) : binA .shl (.int .u64 x) (.int k (j : Int)) = some (.int .u64 (IntKind.u64.wrap (x * 2 ^ j))) := by
  rw [i_shl, if_neg (by omega), Int.toNat_natCast, Nat.min_eq_left (by simp only [IntKind.bits]; omega)]
theorem U_32 {k : IntKind} (x : Int) : binA .shr (.int .u64 x) (.int k 32) = some (.int .u64 (x / 4294967296)) := U_shr 32 (by decide)
theorem U_16 {k : IntKind} (x : Int) : binA .shr (.int .u64 x) (.int k 16) = some (.int .u64 (x / 65536)) := U_shr 16 (by decide)
theorem U_8 {k : IntKind} (x : Int) : binA .shr (.int .u64 x) (.int k 8) = some (.int .u64 (x / 256)) := U_shr 8 (by decide)
theorem amount_ok {a : Int} (h0 : -9223372036854775808 ≤ a) (h1 : a ≤ 9223372036854775807) : OkF Try.prog 122 [.int .i64 a] (.int .u64 (amt a), []) := by
  refine OkF.W0 hm h122 (of_decide_eq_true rfl) ?_
  unfold c122
  by_cases h : a < 0
  · have e : IntKind.u64.wrap (-(IntKind.u64.wrap a)) = -a := by simp only [IntKind.wrap_u64]; omega
    have e2 : amt a = -a := by unfold amt; rw [if_pos h]
    simp -dsimp [h, e, e2]
  · have e : IntKind.u64.wrap a = a := u64w (by omega) (by omega)
    have e2 : amt a = a := by unfold amt; rw [if_neg h]
    simp -dsimp [h, e, e2]
theorem mul_ok {x y : Int} (hx0 : 0 ≤ x) (hx1 : x < 18446744073709551616) (hy0 : 0 ≤ y) (hy1 : y < 18446744073709551616) :
    OkF Try.prog 121 [uV x, uV y] (.tup [uV (x * y / 18446744073709551616), uV (x * y % 18446744073709551616)], []) := by
  obtain ⟨p0, p1⟩ := mul_bound (a := x / 4294967296) (b := y / 4294967296) (n := 4294967295) (m := 4294967295) (by omega) (by omega) (by omega) (by omega)
  obtain ⟨q0, q1⟩ := mul_bound (a := x / 4294967296) (b := y % 4294967296) (n := 4294967295) (m := 4294967295) (by omega) (by omega) (by omega) (by omega)
  obtain ⟨r0, r1⟩ := mul_bound (a := x % 4294967296) (b := y / 4294967296) (n := 4294967295) (m := 4294967295) (by omega) (by omega) (by omega) (by omega)
  obtain ⟨s0, s1⟩ := mul_bound (a := x % 4294967296) (b := y % 4294967296) (n := 4294967295) (m := 4294967295) (by omega) (by omega) (by omega) (by omega)
  have ex : x = x / 4294967296 * 4294967296 + x % 4294967296 := by omega
  have ey : y = y / 4294967296 * 4294967296 + y % 4294967296 := by omega
  have e : x * y = x / 4294967296 * (y / 4294967296) * 18446744073709551616 + (x / 4294967296 * (y % 4294967296) + x % 4294967296 * (y / 4294967296)) * 4294967296 + x % 4294967296 * (y % 4294967296) := by
    generalize x / 4294967296 = a at *
    generalize x % 4294967296 = b at *
    generalize y / 4294967296 = c at *
    generalize y % 4294967296 = d at *
    rw [ex, ey]
    grind
  have f1 := U_low hx0 hx1
  have f2 := U_32 (k := .u64) x
  have f3 := U_low hy0 hy1
  have f4 := U_32 (k := .u64) y
  generalize x / 4294967296 = a at *
  generalize x % 4294967296 = b at *
  generalize y / 4294967296 = c at *
  generalize y % 4294967296 = d at *
  have w1 : IntKind.u64.wrap (b * d) = b * d := u64w s0 (by omega)
  have w2 : IntKind.u64.wrap (a * d) = a * d := u64w q0 (by omega)
  have w3 : IntKind.u64.wrap (b * c) = b * c := u64w r0 (by omega)
  have w4 : IntKind.u64.wrap (a * c) = a * c := u64w p0 (by omega)
  generalize hP : a * c = p at *
  generalize hQ : a * d = q at *
  generalize hR : b * c = r at *
  generalize hS : b * d = s at *
  have w5 : IntKind.u64.wrap (q + s / 4294967296) = q + s / 4294967296 := u64w (by omega) (by omega)
  have f5 := U_low (x := q + s / 4294967296) (by omega) (by omega)
  have w6 : IntKind.u64.wrap ((q + s / 4294967296) % 4294967296 + r) = (q + s / 4294967296) % 4294967296 + r := u64w (by omega) (by omega)
  have w7 : IntKind.u64.wrap (p + (q + s / 4294967296) / 4294967296) = p + (q + s / 4294967296) / 4294967296 := u64w (by omega) (by omega)
  have w8 : IntKind.u64.wrap (p + (q + s / 4294967296) / 4294967296 + ((q + s / 4294967296) % 4294967296 + r) / 4294967296) = x * y / 18446744073709551616 := by rw [u64w (by omega) (by omega)]; omega
  have w9 : IntKind.u64.wrap (x * y) = x * y % 18446744073709551616 := by rw [IntKind.wrap_u64]
  have f6 : ∀ z : Int, binA .shr (.int .u64 z) (.int .u64 32) = some (.int .u64 (z / 4294967296)) := U_32
  refine OkF.W0 hm h121 (of_decide_eq_true rfl) ?_
  unfold c121
  simp -dsimp [-i_and, -i_shr, f1, f2, f3, f4, hP, hQ, hR, hS, w1, w2, w3, w4, w5, f5, w6, w7, w8, w9, f6]
abbrev tabL : List UInt8 := [0, 1, 2, 2, 3, 3, 3, 3, 4, 4, 4, 4, 4, 4, 4, 4, 5, 5, 5, 5, 5, 5, 5, 5, 5, 5, 5, 5, 5, 5, 5, 5, 6, 6, 6, 6, 6, 6, 6, 6, 6, 6, 6, 6, 6, 6, 6, 6, 6, 6, 6, 6, 6, 6, 6, 6, 6, 6, 6, 6, 6, 6, 6, 6, 7, 7, 7, 7, 7, 7, 7, 7, 7, 7, 7, 7, 7, 7, 7, 7, 7, 7, 7, 7, 7, 7, 7, 7, 7, 7, 7, 7, 7, 7, 7, 7, 7, 7, 7, 7, 7, 7, 7, 7, 7, 7, 7, 7, 7, 7, 7, 7, 7, 7, 7, 7, 7, 7, 7, 7, 7, 7, 7, 7, 7, 7, 7, 7, 8, 8, 8, 8, 8, 8, 8, 8, 8, 8, 8, 8, 8, 8, 8, 8, 8, 8, 8, 8, 8, 8, 8, 8, 8, 8, 8, 8, 8, 8, 8, 8, 8, 8, 8, 8, 8, 8, 8, 8, 8, 8, 8, 8, 8, 8, 8, 8, 8, 8, 8, 8, 8, 8, 8, 8, 8, 8, 8, 8, 8, 8, 8, 8, 8, 8, 8, 8, 8, 8, 8, 8, 8, 8, 8, 8, 8, 8, 8, 8, 8, 8, 8, 8, 8, 8, 8, 8, 8, 8, 8, 8, 8, 8, 8, 8, 8, 8, 8, 8, 8, 8, 8, 8, 8, 8, 8, 8, 8, 8, 8, 8, 8, 8, 8, 8, 8, 8, 8, 8, 8, 8, 8, 8, 8, 8, 8, 8]
theorem tab_all : ∀ n : Fin 256, (tabL[n.val]?.map fun b => (b.toNat : Int)) = some (tabN n.val) := by decide +kernel
theorem tab_idx {i : Int} (h0 : 0 ≤ i) (h1 : i < 256) : idxA (.str tabL) (.int .u8 i) = some (.int .u8 (tabN i.toNat)) := by
  have := tab_all ⟨i.toNat, by omega⟩
  simp only at this
  simp only [idxA]
  rw [if_pos h0]
  generalize tabL = T at *
  cases hT : T[i.toNat]? with
  | none => rw [hT] at this; cases this
  | some b =>
    rw [hT] at this
    simp only [Option.map_some, Option.some.injEq] at this ⊢
    rw [this]
theorem tabN_rng (n : Nat) : 0 ≤ tabN n ∧ tabN n ≤ 8 := by unfold tabN; repeat' split <;> try omega
theorem len_ok {y : Int} (h0 : 1 ≤ y) (h1 : y < 18446744073709551616) :
    ∃ (n : Nat) (i : Int), (n = 0 ∨ n = 8 ∨ n = 16 ∨ n = 24 ∨ n = 32 ∨ n = 40 ∨ n = 48 ∨ n = 56) ∧ i = y / 2 ^ n ∧ 1 ≤ i ∧ i < 256 ∧ OkF Try.prog 152 [uV y] (.int .i64 (n + tabN i.toNat), []) := by
  have wu : ∀ i : Int, 0 ≤ i → i < 256 → IntKind.u8.wrap i = i := fun i a b => by rw [IntKind.wrap_u8]; omega
  have f32 : ∀ x : Int, binA .shr (.int .u64 x) (.int .u64 32) = some (.int .u64 (x / 4294967296)) := U_32
  have f16 : ∀ x : Int, binA .shr (.int .u64 x) (.int .u64 16) = some (.int .u64 (x / 65536)) := U_16
  have f8 : ∀ x : Int, binA .shr (.int .u64 x) (.int .u64 8) = some (.int .u64 (x / 256)) := U_8
  have fin : ∀ (n : Nat) (i : Int), n ≤ 56 → IntKind.i64.wrap ((n : Int) + IntKind.i64.wrap (tabN i.toNat)) = n + tabN i.toNat := fun n i hn => by
    have := tabN_rng i.toNat
    rw [w_i64 (n := tabN i.toNat) (by omega) (by omega), w_i64 (by omega) (by omega)]
  have main : ∀ (n : Nat) (i : Int), (n = 0 ∨ n = 8 ∨ n = 16 ∨ n = 24 ∨ n = 32 ∨ n = 40 ∨ n = 48 ∨ n = 56) → i = y / 2 ^ n → 1 ≤ i → i < 256 → ((IntKind.u8.wrap i = i → idxA (.str tabL) (.int .u8 i) = some (.int .u8 (tabN i.toNat)) → IntKind.i64.wrap ((n : Int) + IntKind.i64.wrap (tabN i.toNat)) = n + tabN i.toNat → OkF Try.prog 152 [uV y] (.int .i64 (n + tabN i.toNat), []))) →
      ∃ (n : Nat) (i : Int), (n = 0 ∨ n = 8 ∨ n = 16 ∨ n = 24 ∨ n = 32 ∨ n = 40 ∨ n = 48 ∨ n = 56) ∧ i = y / 2 ^ n ∧ 1 ≤ i ∧ i < 256 ∧ OkF Try.prog 152 [uV y] (.int .i64 (n + tabN i.toNat), []) :=
    fun n i a b c d e => ⟨n, i, a, b, c, d, e (wu i (by omega) d) (tab_idx (by omega) d) (fin n i (by omega))⟩
  delta tabL at main
  have k8 : IntKind.i64.wrap 8 = 8 := by decide
  have k16 : IntKind.i64.wrap 16 = 16 := by decide
  have k24 : IntKind.i64.wrap 24 = 24 := by decide
  have k40 : IntKind.i64.wrap 40 = 40 := by decide
  have k48 : IntKind.i64.wrap 48 = 48 := by decide
  have k56 : IntKind.i64.wrap 56 = 56 := by decide
  by_cases c1 : 4294967296 ≤ y
  · by_cases c2 : 65536 ≤ y / 4294967296
    · by_cases c3 : 256 ≤ y / 4294967296 / 65536
      · refine main 56 (y / 4294967296 / 65536 / 256) (by omega) (by simp only [Int.reducePow]; omega) (by omega) (by omega) fun g1 g2 g3 => ?_
        refine OkF.W0 hm h152 (of_decide_eq_true rfl) ?_
        unfold c152
        simp -dsimp [-idxA, -i_shr, f32, f16, f8, c1, c2, c3, g1, g2, k8, k16, k24, k40, k48, k56]
        simpa using g3
      · refine main 48 (y / 4294967296 / 65536) (by omega) (by simp only [Int.reducePow]; omega) (by omega) (by omega) fun g1 g2 g3 => ?_
        refine OkF.W0 hm h152 (of_decide_eq_true rfl) ?_
        unfold c152
        simp -dsimp [-idxA, -i_shr, f32, f16, f8, c1, c2, c3, g1, g2, k8, k16, k24, k40, k48, k56]
        simpa using g3
    · by_cases c3 : 256 ≤ y / 4294967296
      · refine main 40 (y / 4294967296 / 256) (by omega) (by simp only [Int.reducePow]; omega) (by omega) (by omega) fun g1 g2 g3 => ?_
        refine OkF.W0 hm h152 (of_decide_eq_true rfl) ?_
        unfold c152
        simp -dsimp [-idxA, -i_shr, f32, f16, f8, c1, c2, c3, g1, g2, k8, k16, k24, k40, k48, k56]
        simpa using g3
      · refine main 32 (y / 4294967296) (by omega) (by simp only [Int.reducePow]) (by omega) (by omega) fun g1 g2 g3 => ?_
        refine OkF.W0 hm h152 (of_decide_eq_true rfl) ?_
        unfold c152
        simp -dsimp [-idxA, -i_shr, f32, f16, f8, c1, c2, c3, g1, g2, k8, k16, k24, k40, k48, k56]
        simpa using g3
  · by_cases c2 : 65536 ≤ y
    · by_cases c3 : 256 ≤ y / 65536
      · refine main 24 (y / 65536 / 256) (by omega) (by simp only [Int.reducePow]; omega) (by omega) (by omega) fun g1 g2 g3 => ?_
        refine OkF.W0 hm h152 (of_decide_eq_true rfl) ?_
        unfold c152
        simp -dsimp [-idxA, -i_shr, f32, f16, f8, c1, c2, c3, g1, g2, k8, k16, k24, k40, k48, k56]
        simpa using g3
      · refine main 16 (y / 65536) (by omega) (by simp only [Int.reducePow]) (by omega) (by omega) fun g1 g2 g3 => ?_
        refine OkF.W0 hm h152 (of_decide_eq_true rfl) ?_
        unfold c152
        simp -dsimp [-idxA, -i_shr, f32, f16, f8, c1, c2, c3, g1, g2, k8, k16, k24, k40, k48, k56]
        simpa using g3
    · by_cases c3 : 256 ≤ y
      · refine main 8 (y / 256) (by omega) (by simp only [Int.reducePow]) (by omega) (by omega) fun g1 g2 g3 => ?_
        refine OkF.W0 hm h152 (of_decide_eq_true rfl) ?_
        unfold c152
        simp -dsimp [-idxA, -i_shr, f32, f16, f8, c1, c2, c3, g1, g2, k8, k16, k24, k40, k48, k56]
        simpa using g3
      · refine main 0 y (by omega) (by simp) (by omega) (by omega) fun g1 g2 g3 => ?_
        refine OkF.W0 hm h152 (of_decide_eq_true rfl) ?_
        unfold c152
        simp -dsimp [-idxA, -i_shr, f32, f16, f8, c1, c2, c3, g1, g2, k8, k16, k24, k40, k48, k56]
        simpa using g3
end Go.Proofs.P3
end
section
set_option linter.unusedVariables false
set_option linter.unusedSimpArgs false
set_option maxRecDepth 10000
set_option maxHeartbeats 8000000
namespace Go.Proofs.P3
open Go.Ex
theorem lead_ok {y : Int} (h0 : 1 ≤ y) (h1 : y < 18446744073709551616) :
    ∃ s : Nat, s ≤ 63 ∧ OkF Try.prog 147 [uV y] (.int .i64 s, []) ∧ 9223372036854775808 ≤ y * 2 ^ s ∧ y * 2 ^ s < 18446744073709551616 := by
  obtain ⟨n, i, hn, hi, i0, i1, e⟩ := len_ok h0 h1
  obtain ⟨s, hs, h2, h3, h4⟩ := leaf hn hi i0 i1
  refine ⟨s, hs, ?_, h3, h4⟩
  refine OkF.W0 hm h147 (of_decide_eq_true rfl) ?_
  unfold c147
  have hw : IntKind.i64.wrap (s : Int) = s := w_i64 (by omega) (by omega)
  simp -dsimp
  refine call_pure e (by simp) rfl ?_
  simp -dsimp [h2, hw]
structure DigI (x2 s y1 y0 u d Q : Int) (q r : Int) (t : St) : Prop where
  g : Guess u d y1 y0 q r Q
  i15 : t.t 15 = uV q
  i16 : t.t 16 = uV r
theorem div_zero {lo y : Int} (hl : 0 ≤ lo ∧ lo < 18446744073709551616) (hy0 : 0 < y) (hy : y < 18446744073709551616) :
    OkF Try.prog 137 [uV 0, uV lo, uV y] (.tup [uV (lo / y), uV (lo % y)], []) := by
  refine OkF.W0 hm h137 (of_decide_eq_true rfl) ?_
  unfold c137
  have n0 : ¬ y = 0 := by omega
  have n1 : ¬ y ≤ 0 := by omega
  have a := Int.ediv_le_self y hl.1
  have b := Int.ediv_nonneg hl.1 (show 0 ≤ y by omega)
  have e1 : IntKind.u64.wrap (lo.tdiv y) = lo / y := by rw [Int.tdiv_eq_ediv_of_nonneg hl.1, u64w b (by omega)]
  have e2 : lo.tmod y = lo % y := Int.tmod_eq_emod_of_nonneg hl.1
  simp -dsimp [n0, n1, e1, e2]
def DI (hi lo x2 s y1 y0 u v1 v0 Q : Int) (n : Nat) (t : St) : Prop := ∃ q r : Int, n = (4294967296 - r).toNat ∧ Guess u v1 y1 y0 q r Q ∧ t.t 15 = uV q ∧ t.t 16 = uV r ∧ t.t 2 = uV x2 ∧ t.t 8 = uV s ∧ t.t 9 = uV y1 ∧ t.t 10 = uV y0 ∧ t.t 11 = uV u ∧ t.t 13 = uV v1 ∧ t.t 14 = uV v0
def DO (x2 s y1 y0 u v1 v0 Q : Int) (e : E) (t : St) : Prop := e = .exit 0 ∧ t.t 15 = uV Q ∧ t.t 2 = uV x2 ∧ t.t 8 = uV s ∧ t.t 9 = uV y1 ∧ t.t 10 = uV y0 ∧ t.t 11 = uV u ∧ t.t 13 = uV v1 ∧ t.t 14 = uV v0
theorem dig0 {hi lo x2 s y1 y0 u v1 v0 Q : Int} {n : Nat} {t : St} (h : DI hi lo x2 s y1 y0 u v1 v0 Q n t) : LP Try.prog l137_0 (DO x2 s y1 y0 u v1 v0 Q) t ⟨⟩ ⟨⟩ := by
  refine loop_dec (DI hi lo x2 s y1 y0 u v1 v0 Q) n h (fun n t hI => ?_)
  obtain ⟨q, r, hn, g, i15, i16, i2, i8, i9, i10, i11, i13, i14⟩ := hI
  have h1 := g.hy1; have h2 := g.hr; have h3 := g.hQ; have h4 := g.hqB; have h5 := g.hqQ
  have hbig := g.big
  have w1 : IntKind.u64.wrap (r + y1) = r + y1 := u64w (by omega) (by omega)
  have hout : ∀ t' : St, t'.t 15 = uV Q → t'.t 2 = uV x2 → t'.t 8 = uV s → t'.t 9 = uV y1 → t'.t 10 = uV y0 → t'.t 11 = uV u → t'.t 13 = uV v1 → t'.t 14 = uV v0 → DO x2 s y1 y0 u v1 v0 Q (.exit 0) t' := fun t' a1 a2 a3 a4 a5 a6 a7 a8 => ⟨rfl, a1, a2, a3, a4, a5, a6, a7, a8⟩
  unfold l137_0
  have step : Q < q → ∀ t' : St, t'.t 15 = uV (q - 1) → t'.t 16 = uV (r + y1) → t'.t 2 = uV x2 → t'.t 8 = uV s → t'.t 9 = uV y1 → t'.t 10 = uV y0 → t'.t 11 = uV u → t'.t 13 = uV v1 → t'.t 14 = uV v0 → r + y1 < 4294967296 → ∃ m, m < n ∧ DI hi lo x2 s y1 y0 u v1 v0 Q m t' := by
    intro hq t' a1 a2 a3 a4 a5 a6 a7 a8 a9 hb
    exact ⟨(4294967296 - (r + y1)).toNat, by omega, q - 1, r + y1, rfl, g.next hq hb, a1, a2, a3, a4, a5, a6, a7, a8, a9⟩
  by_cases hb : 4294967296 ≤ q
  · have hq : Q < q := by omega
    have w2 : IntKind.u64.wrap (q - 1) = q - 1 := u64w (by omega) (by omega)
    simp -dsimp [i15, hb, i16, i9, w1, w2]
    by_cases hb2 : 4294967296 ≤ r + y1
    · have hl := g.last hq (by omega)
      simp -dsimp [hb2]
      exact hout _ (by simp -dsimp [hl]) (by simp -dsimp [i2]) (by simp -dsimp [i8]) (by simp -dsimp [i9]) (by simp -dsimp [i10]) (by simp -dsimp [i11]) (by simp -dsimp [i13]) (by simp -dsimp [i14])
    · simp -dsimp [hb2]
      exact step hq _ (by simp -dsimp) (by simp -dsimp) (by simp -dsimp [i2]) (by simp -dsimp [i8]) (by simp -dsimp [i9]) (by simp -dsimp [i10]) (by simp -dsimp [i11]) (by simp -dsimp [i13]) (by simp -dsimp [i14]) (by omega)
  · obtain ⟨w3, w4⟩ := g.wraps hb
    simp -dsimp [i15, hb, i10, i16, i13, w3, w4]
    by_cases hc : 4294967296 * r + v1 < q * y0
    · have hq : Q < q := hbig.1 (.inr hc)
      have w2 : IntKind.u64.wrap (q - 1) = q - 1 := u64w (by omega) (by omega)
      simp -dsimp [hc, i15, i16, i9, w1, w2]
      by_cases hb2 : 4294967296 ≤ r + y1
      · have hl := g.last hq (by omega)
        simp -dsimp [hb2]
        exact hout _ (by simp -dsimp [hl]) (by simp -dsimp [i2]) (by simp -dsimp [i8]) (by simp -dsimp [i9]) (by simp -dsimp [i10]) (by simp -dsimp [i11]) (by simp -dsimp [i13]) (by simp -dsimp [i14])
      · simp -dsimp [hb2]
        exact step hq _ (by simp -dsimp) (by simp -dsimp) (by simp -dsimp [i2]) (by simp -dsimp [i8]) (by simp -dsimp [i9]) (by simp -dsimp [i10]) (by simp -dsimp [i11]) (by simp -dsimp [i13]) (by simp -dsimp [i14]) (by omega)
    · have hq : q = Q := by
        have : ¬ Q < q := fun h => by rcases hbig.2 h with h | h <;> omega
        omega
      simp -dsimp [hc]
      exact hout _ (by simp -dsimp [i15, hq]) (by simp -dsimp [i2]) (by simp -dsimp [i8]) (by simp -dsimp [i9]) (by simp -dsimp [i10]) (by simp -dsimp [i11]) (by simp -dsimp [i13]) (by simp -dsimp [i14])
def DJ (x2 s y1 y0 u v0 q1 Q : Int) (n : Nat) (t : St) : Prop := ∃ q r : Int, n = (4294967296 - r).toNat ∧ Guess u v0 y1 y0 q r Q ∧ t.t 18 = uV q ∧ t.t 16 = uV r ∧ t.t 2 = uV x2 ∧ t.t 8 = uV s ∧ t.t 9 = uV y1 ∧ t.t 10 = uV y0 ∧ t.t 17 = uV u ∧ t.t 15 = uV q1 ∧ t.t 14 = uV v0
def DP (x2 s y1 y0 u v0 q1 Q : Int) (e : E) (t : St) : Prop := e = .exit 2 ∧ t.t 18 = uV Q ∧ t.t 2 = uV x2 ∧ t.t 8 = uV s ∧ t.t 17 = uV u ∧ t.t 15 = uV q1 ∧ t.t 14 = uV v0
theorem dig1 {x2 s y1 y0 u v0 q1 Q : Int} {n : Nat} {t : St} (h : DJ x2 s y1 y0 u v0 q1 Q n t) : LP Try.prog l137_1 (DP x2 s y1 y0 u v0 q1 Q) t ⟨⟩ ⟨⟩ := by
  refine loop_dec (DJ x2 s y1 y0 u v0 q1 Q) n h (fun n t hI => ?_)
  obtain ⟨q, r, hn, g, i18, i16, i2, i8, i9, i10, i17, i15, i14⟩ := hI
  have h1 := g.hy1; have h2 := g.hr; have h3 := g.hQ; have h4 := g.hqB; have h5 := g.hqQ
  have hbig := g.big
  have w1 : IntKind.u64.wrap (r + y1) = r + y1 := u64w (by omega) (by omega)
  have hout : ∀ t' : St, t'.t 18 = uV Q → t'.t 2 = uV x2 → t'.t 8 = uV s → t'.t 17 = uV u → t'.t 15 = uV q1 → t'.t 14 = uV v0 → DP x2 s y1 y0 u v0 q1 Q (.exit 2) t' := fun t' a1 a2 a3 a4 a5 a6 => ⟨rfl, a1, a2, a3, a4, a5, a6⟩
  unfold l137_1
  have step : Q < q → ∀ t' : St, t'.t 18 = uV (q - 1) → t'.t 16 = uV (r + y1) → t'.t 2 = uV x2 → t'.t 8 = uV s → t'.t 9 = uV y1 → t'.t 10 = uV y0 → t'.t 17 = uV u → t'.t 15 = uV q1 → t'.t 14 = uV v0 → r + y1 < 4294967296 → ∃ m, m < n ∧ DJ x2 s y1 y0 u v0 q1 Q m t' := by
    intro hq t' a1 a2 a3 a4 a5 a6 a7 a8 a9 hb
    exact ⟨(4294967296 - (r + y1)).toNat, by omega, q - 1, r + y1, rfl, g.next hq hb, a1, a2, a3, a4, a5, a6, a7, a8, a9⟩
  by_cases hb : 4294967296 ≤ q
  · have hq : Q < q := by omega
    have w2 : IntKind.u64.wrap (q - 1) = q - 1 := u64w (by omega) (by omega)
    simp -dsimp [i18, hb, i16, i9, w1, w2]
    by_cases hb2 : 4294967296 ≤ r + y1
    · have hl := g.last hq (by omega)
      simp -dsimp [hb2]
      exact hout _ (by simp -dsimp [hl]) (by simp -dsimp [i2]) (by simp -dsimp [i8]) (by simp -dsimp [i17]) (by simp -dsimp [i15]) (by simp -dsimp [i14])
    · simp -dsimp [hb2]
      exact step hq _ (by simp -dsimp) (by simp -dsimp) (by simp -dsimp [i2]) (by simp -dsimp [i8]) (by simp -dsimp [i9]) (by simp -dsimp [i10]) (by simp -dsimp [i17]) (by simp -dsimp [i15]) (by simp -dsimp [i14]) (by omega)
  · obtain ⟨w3, w4⟩ := g.wraps hb
    simp -dsimp [i18, hb, i10, i16, i14, w3, w4]
    by_cases hc : 4294967296 * r + v0 < q * y0
    · have hq : Q < q := hbig.1 (.inr hc)
      have w2 : IntKind.u64.wrap (q - 1) = q - 1 := u64w (by omega) (by omega)
      simp -dsimp [hc, i18, i16, i9, w1, w2]
      by_cases hb2 : 4294967296 ≤ r + y1
      · have hl := g.last hq (by omega)
        simp -dsimp [hb2]
        exact hout _ (by simp -dsimp [hl]) (by simp -dsimp [i2]) (by simp -dsimp [i8]) (by simp -dsimp [i17]) (by simp -dsimp [i15]) (by simp -dsimp [i14])
      · simp -dsimp [hb2]
        exact step hq _ (by simp -dsimp) (by simp -dsimp) (by simp -dsimp [i2]) (by simp -dsimp [i8]) (by simp -dsimp [i9]) (by simp -dsimp [i10]) (by simp -dsimp [i17]) (by simp -dsimp [i15]) (by simp -dsimp [i14]) (by omega)
    · have hq : q = Q := by
        have : ¬ Q < q := fun h => by rcases hbig.2 h with h | h <;> omega
        omega
      simp -dsimp [hc]
      exact hout _ (by simp -dsimp [i18, hq]) (by simp -dsimp [i2]) (by simp -dsimp [i8]) (by simp -dsimp [i17]) (by simp -dsimp [i15]) (by simp -dsimp [i14])
end Go.Proofs.P3
end
section
set_option linter.unusedVariables false
set_option linter.unusedSimpArgs false
set_option maxRecDepth 10000
set_option maxHeartbeats 8000000
namespace Go.Proofs.P3
open Go.Ex
theorem div_ok {hi lo y : Int} (hh : 0 ≤ hi ∧ hi < y) (hl : 0 ≤ lo ∧ lo < 18446744073709551616) (hy : y < 18446744073709551616) :
    OkF Try.prog 137 [uV hi, uV lo, uV y] (.tup [uV ((hi * 18446744073709551616 + lo) / y), uV ((hi * 18446744073709551616 + lo) % y)], []) := by
  by_cases z : hi = 0
  · subst z
    have := div_zero hl (by omega) hy
    rwa [Int.zero_mul, Int.zero_add]
  obtain ⟨s, hs, hz, y0, y1⟩ := lead_ok (y := y) (by omega) hy
  have ws : IntKind.u64.wrap (s : Int) = s := u64w (by omega) (by omega)
  have ws2 : IntKind.u64.wrap (64 - (s : Int)) = ((64 - s : Nat) : Int) := by rw [u64w (by omega) (by omega)]; omega
  have fy := U_shl (k := .u64) (x := y) s (by omega)
  have fh := U_shl (k := .u64) (x := hi) s (by omega)
  have fl := U_shl (k := .u64) (x := lo) s (by omega)
  have fr := U_shr (k := .u64) (x := lo) (64 - s) (by omega)
  have fz : ∀ x : Int, binA .shr (.int .u64 x) (.int .u64 (s : Int)) = some (.int .u64 (x / 2 ^ s)) := fun x => U_shr s (by omega)
  simp only [IntKind.wrap_u64] at fy fh fl
  have pp : (2 : Int) ^ s * 2 ^ (64 - s) = 18446744073709551616 := by rw [← Int.pow_add, show s + (64 - s) = 64 by omega]; rfl
  have p0 : (0 : Int) < 2 ^ s := Int.pow_pos (by decide)
  have q0 : (0 : Int) < 2 ^ (64 - s) := Int.pow_pos (by decide)
  generalize hp : (2 : Int) ^ s = p at *
  generalize hpp : (2 : Int) ^ (64 - s) = pq at *
  have lh := Int.mul_ediv_add_emod lo pq
  have ll0 := Int.emod_nonneg lo (show pq ≠ 0 by omega)
  have ll1 := Int.emod_lt_of_pos lo q0
  have lh0 := Int.ediv_nonneg hl.1 (show 0 ≤ pq by omega)
  generalize lo / pq = h at *
  generalize lo % pq = l at *
  have hlt : h < p := by
    refine Int.lt_of_not_ge fun hge => ?_
    have := Int.mul_le_mul_of_nonneg_left hge (show 0 ≤ pq by omega)
    have : pq * p = 18446744073709551616 := by rw [Int.mul_comm]; exact pp
    omega
  have lp0 : 0 ≤ l * p := Int.mul_nonneg ll0 (by omega)
  have lp1 : l * p < 18446744073709551616 := by
    have := Int.mul_lt_mul_of_pos_right ll1 p0
    rw [Int.mul_comm pq p, pp] at this
    exact this
  have elo : lo * p = h * 18446744073709551616 + l * p := by rw [← lh, ← pp]; grind
  have hip : (hi + 1) * p ≤ y * p := Int.mul_le_mul_of_nonneg_right (by omega) (by omega)
  have hip' : (hi + 1) * p = hi * p + p := by grind
  have hi0 : 0 ≤ hi * p := Int.mul_nonneg hh.1 (by omega)
  rw [elo, show (h * 18446744073709551616 + l * p) % 18446744073709551616 = l * p by omega] at fl
  rw [show hi * p % 18446744073709551616 = hi * p by omega] at fh
  rw [show y * p % 18446744073709551616 = y * p by omega] at fy
  have ej : Go.bits .or .u64 (hi * p) h = hi * p + h := by
    rw [← hp]
    exact bits_join .u64 64 (by decide) wr_u64 s _ _ (by rw [hp]; exact hi0) (Int.mul_emod_left _ _) (by rw [hp]; omega) lh0 (by rw [hp]; exact hlt) (by omega)
  have fo : binA .or (.int .u64 (hi * p)) (.int .u64 h) = some (.int .u64 (hi * p + h)) := by
    rw [i_or]
    exact congrArg (fun x => some (V.int .u64 x)) ej
  have eN : (hi * p + h) * 18446744073709551616 + l * p = p * (hi * 18446744073709551616 + lo) := by
    have : p * (hi * 18446744073709551616 + lo) = hi * p * 18446744073709551616 + lo * p := by grind
    rw [this, elo]; omega
  generalize hx2 : y * p = x2 at *
  generalize hu0 : hi * p = u0 at *
  generalize hu : u0 + h = u at *
  have hw : 0 ≤ l * p ∧ l * p < 18446744073709551616 := ⟨lp0, lp1⟩
  generalize l * p = v at *
  have hu' : 0 ≤ u ∧ u < x2 := by omega
  have f1 := U_low (x := x2) (by omega) (by omega)
  have f2 := U_32 (k := .u64) x2
  have f3 := U_low (x := v) (by omega) (by omega)
  have f4 := U_32 (k := .u64) v
  have ex2 : x2 / 4294967296 * 4294967296 + x2 % 4294967296 = x2 := by omega
  have ev : v / 4294967296 * 4294967296 + v % 4294967296 = v := by omega
  have r1 : 2147483648 ≤ x2 / 4294967296 ∧ x2 / 4294967296 < 4294967296 := by omega
  have r2 : 0 ≤ x2 % 4294967296 ∧ x2 % 4294967296 < 4294967296 := by omega
  have r3 : 0 ≤ v / 4294967296 ∧ v / 4294967296 < 4294967296 := by omega
  have r4 : 0 ≤ v % 4294967296 ∧ v % 4294967296 < 4294967296 := by omega
  generalize x2 / 4294967296 = a1 at *
  generalize x2 % 4294967296 = a0 at *
  generalize v / 4294967296 = v1 at *
  generalize v % 4294967296 = v0 at *
  -- a digit
  have dig : ∀ u d : Int, 0 ≤ u ∧ u < x2 → 0 ≤ d ∧ d < 4294967296 → ∃ Q q r : Int, Guess u d a1 a0 q r Q ∧ (0 ≤ Q ∧ Q < 4294967296) ∧ (0 ≤ u * 4294967296 + d - Q * x2 ∧ u * 4294967296 + d - Q * x2 < x2) ∧ binA .quo (.int .u64 u) (.int .u64 a1) = some (.int .u64 q) ∧ IntKind.u64.wrap (u - IntKind.u64.wrap (q * a1)) = r := by
    intro u d hu hd
    have g := Guess.first (u := u) (d := d) (y1 := a1) (y0 := a0) r1 r2 hd (by omega)
    rw [ex2] at g
    have gQ := g.hQ; have gQ0 := g.hQ0; have gQ1 := g.hQ1
    rw [ex2] at gQ0 gQ1
    have f := Int.mul_ediv_add_emod u a1
    have f0 := Int.ediv_nonneg hu.1 (show 0 ≤ a1 by omega)
    have f1 := g.hqB
    have f2 := g.hr
    have f3 := Int.mul_nonneg (show 0 ≤ a1 by omega) f0
    refine ⟨_, _, _, g, gQ, by omega, ?_, ?_⟩
    · rw [i_quo, if_neg (by omega), Int.tdiv_eq_ediv_of_nonneg hu.1, u64w f0 (by omega)]
    · rw [Int.mul_comm (u / a1), u64w (x := a1 * (u / a1)) (by omega) (by omega), u64w (by omega) (by omega)]
      omega
  obtain ⟨Q1, q1, g1r, g1, hQ1, hb1, fq1, fr1⟩ := dig u v1 hu' r3
  have e17 : IntKind.u64.wrap (IntKind.u64.wrap (IntKind.u64.wrap (u * 4294967296) + v1) - IntKind.u64.wrap (Q1 * x2)) = u * 4294967296 + v1 - Q1 * x2 := by
    simp only [IntKind.wrap_u64]; omega
  generalize hw21 : u * 4294967296 + v1 - Q1 * x2 = u2 at *
  obtain ⟨Q2, q2, g2r, g2, hQ2, hb2, fq2, fr2⟩ := dig u2 v0 hb1 r4
  have e0 : IntKind.u64.wrap (IntKind.u64.wrap (IntKind.u64.wrap (u2 * 4294967296) + v0) - IntKind.u64.wrap (Q2 * x2)) = u2 * 4294967296 + v0 - Q2 * x2 := by
    simp only [IntKind.wrap_u64]; omega
  have er : u2 * 4294967296 + v0 - Q2 * x2 = p * (hi * 18446744073709551616 + lo - (Q1 * 4294967296 + Q2) * y) := by
    have : p * (hi * 18446744073709551616 + lo - (Q1 * 4294967296 + Q2) * y) = p * (hi * 18446744073709551616 + lo) - (Q1 * 4294967296 + Q2) * (y * p) := by grind
    rw [this, ← eN, hx2, ← hw21]
    have : (Q1 * 4294967296 + Q2) * x2 = Q1 * x2 * 4294967296 + Q2 * x2 := by grind
    rw [this]
    omega
  have eQ : IntKind.u64.wrap (IntKind.u64.wrap (Q1 * 4294967296) + Q2) = Q1 * 4294967296 + Q2 := by rw [u64w (x := Q1 * 4294967296) (by omega) (by omega), u64w (by omega) (by omega)]
  have ed : (u2 * 4294967296 + v0 - Q2 * x2) / p = hi * 18446744073709551616 + lo - (Q1 * 4294967296 + Q2) * y := by rw [er, Int.mul_ediv_cancel_left _ (by omega)]
  have hb0 : 0 ≤ p * (hi * 18446744073709551616 + lo - (Q1 * 4294967296 + Q2) * y) := by rw [← er]; omega
  have hb1' : p * (hi * 18446744073709551616 + lo - (Q1 * 4294967296 + Q2) * y) < p * y := by rw [← er, Int.mul_comm p y, hx2]; omega
  have rr0 : 0 ≤ hi * 18446744073709551616 + lo - (Q1 * 4294967296 + Q2) * y := Int.le_of_mul_le_mul_left (by rw [Int.mul_zero]; exact hb0) p0
  have rr1 : hi * 18446744073709551616 + lo - (Q1 * 4294967296 + Q2) * y < y := Int.lt_of_mul_lt_mul_left hb1' (by omega)
  obtain ⟨k1, k2⟩ := div_unique (n := hi * 18446744073709551616 + lo) (y := y) (q := Q1 * 4294967296 + Q2) (by omega) rr0 rr1
  rw [← k1, ← k2]
  rw [← ed]
  generalize hi * 18446744073709551616 + lo - (Q1 * 4294967296 + Q2) * y = rest at *
  have n0 : ¬ y = 0 := by omega
  have n1 : ¬ y ≤ hi := by omega
  clear er ed hb0 hb1' rr0 rr1 k1 k2 eN elo hip hip' dig
  refine OkF.W0 hm h137 (of_decide_eq_true rfl) ?_
  unfold c137
  simp -dsimp [n0, n1, z]
  refine call_pure hz (by simp) rfl ?_
  simp -dsimp [-i_shl, -i_shr, -i_and, -i_or, -i_quo, ws, ws2, fy, fh, fl, fr, fo, f1, f2, f3, f4, hu, fq1, fr1]
  refine LP_cut (DO x2 s a1 a0 u v1 v0 Q1) (dig0 (hi := hi) (lo := lo) ⟨q1, g1r, rfl, g1, by simp -dsimp, by simp -dsimp, by simp -dsimp, by simp -dsimp, by simp -dsimp, by simp -dsimp, by simp -dsimp, by simp -dsimp, by simp -dsimp⟩) ?_
  rintro e t ⟨rfl, i15, i2, i8, i9, i10, i11, i13, i14⟩
  simp -dsimp [-i_shl, -i_shr, -i_and, -i_or, -i_quo, i15, i2, i8, i9, i10, i11, i13, i14, e17, fq2, fr2]
  refine LP_cut (DP x2 s a1 a0 u2 v0 Q1 Q2) (dig1 ⟨q2, g2r, rfl, g2, by simp -dsimp, by simp -dsimp, by simp -dsimp [i2], by simp -dsimp [i8], by simp -dsimp [i9], by simp -dsimp [i10], by simp -dsimp, by simp -dsimp [i15], by simp -dsimp [i14]⟩) ?_
  rintro e t ⟨rfl, i18, i2, i8, i17, i15, i14⟩
  simp -dsimp [-i_shl, -i_shr, -i_and, -i_or, -i_quo, i15, i2, i8, i18, i17, i14, e0, eQ, fz]
end Go.Proofs.P3
end
section
set_option linter.unusedVariables false
set_option linter.unusedSimpArgs false
set_option maxRecDepth 10000
set_option maxHeartbeats 8000000
namespace Go.Proofs.P3
open Go.Ex
theorem big_q {p d : Int} (hd : 1 ≤ d) (h : d ≤ p / 18446744073709551616) : 4611686018427387904 ≤ p / d := by
  have m := Int.mul_ediv_add_emod p d
  have m1 := Int.emod_lt_of_pos p (show 0 < d by omega)
  refine Int.le_of_not_gt fun h => ?_
  have := Int.mul_le_mul_of_nonneg_left (show p / d ≤ 4611686018427387903 by omega) (show 0 ≤ d by omega)
  omega
theorem dv_ok {p d : Int} (h0 : 0 ≤ p) (hd0 : 1 ≤ d) (hd1 : d ≤ 1000000000000) (h : ¬ d ≤ p / 18446744073709551616) : OkF Try.prog 137 [uV (p / 18446744073709551616), uV (p % 18446744073709551616), uV d] (.tup [uV (p / d), uV (p % d)], []) := by
  have e := div_ok (hi := p / 18446744073709551616) (lo := p % 18446744073709551616) (y := d) (by omega) (by omega) (by omega)
  rwa [show p / 18446744073709551616 * 18446744073709551616 + p % 18446744073709551616 = p by omega] at e
theorem Nearest_ok {a b d : Int} (ha0 : -1000000000000 ≤ a) (ha1 : a ≤ 1000000000000) (hb0 : 1 ≤ b) (hb1 : b ≤ 1000000000000) (hd0 : 1 ≤ d) (hd1 : d ≤ 1000000000000) :
    OkF Try.prog 118 [.int .i64 a, .int .i64 b, .int .i64 d] (.int .i64 (nearS a b d), []) := by
  refine OkF.W0 hm h118 (of_decide_eq_true rfl) ?_
  unfold c118
  have nb : ¬ b < 0 := by omega
  have eb : amt b = b := by unfold amt; rw [if_neg nb]
  have ca := amount_ok (a := a) (by omega) (by omega)
  have cb := amount_ok (a := b) (by omega) (by omega)
  rw [eb] at cb
  have wd : IntKind.u64.wrap d = d := u64w (by omega) (by omega)
  by_cases ha : a < 0
  · have ea : amt a = -a := by unfold amt; rw [if_pos ha]
    rw [ea] at ca
    have hn : nearS a b d = -rndDown (-a * b) d := by unfold nearS; rw [if_pos ha]
    obtain ⟨pp0, pp1⟩ := mul_bound (a := -a) (b := b) (n := 1000000000000) (m := 1000000000000) (by omega) (by omega) (by omega) (by omega)
    have cm := mul_ok (x := -a) (y := b) (by omega) (by omega) (by omega) (by omega)
    simp -dsimp [ha, nb]
    refine call_pure ca (by simp) rfl ?_
    simp -dsimp
    refine call_pure cb (by simp) rfl ?_
    simp -dsimp
    refine call_pure cm (by simp) rfl ?_
    generalize -a * b = p at *
    have hbig := big_q (p := p) hd0
    have hdv := dv_ok (p := p) pp0 hd0 hd1
    have q0 : 0 ≤ p / d := Int.ediv_nonneg pp0 (by omega)
    have q1 : 0 ≤ p % d := Int.emod_nonneg p (by omega)
    have q2 : p % d < d := Int.emod_lt_of_pos p (by omega)
    simp -dsimp [wd]
    by_cases c1 : d ≤ p / 18446744073709551616
    · have e : nearS a b d = -4611686018427387904 := by rw [hn]; unfold rndDown; rw [if_pos (by have := hbig c1; omega)]
      simp -dsimp [c1, e]
    · simp -dsimp [c1, wd]
      refine call_pure (hdv c1) (by simp) rfl ?_
      unfold rndDown at hn
      generalize p / d = q at *
      generalize p % d = r at *
      simp -dsimp
      by_cases c2 : 4611686018427387903 ≤ q
      · have e : nearS a b d = -4611686018427387904 := by rw [hn, if_pos c2]
        simp -dsimp [c2, e]
      · have w1 : IntKind.u64.wrap (d - r) = d - r := u64w (by omega) (by omega)
        have w2 : IntKind.u64.wrap (q + 1) = q + 1 := u64w (by omega) (by omega)
        have w3 : IntKind.i64.wrap (q + 1) = q + 1 := w_i64 (by omega) (by omega)
        have w4 : IntKind.i64.wrap q = q := w_i64 (by omega) (by omega)
        have w5 : IntKind.i64.wrap (-(q + 1)) = -(q + 1) := w_i64 (by omega) (by omega)
        have w6 : IntKind.i64.wrap (-q) = -q := w_i64 (by omega) (by omega)
        rw [if_neg (show ¬ q ≥ 4611686018427387903 from c2)] at hn
        by_cases c3 : d - r < r
        · rw [if_pos (show r > d - r from c3)] at hn
          simp -dsimp [c2, wd, w1, c3, w2, w3, w5, hn]
        · rw [if_neg (show ¬ r > d - r from c3)] at hn
          simp -dsimp [c2, wd, w1, c3, w4, w6, hn]
  · have ea : amt a = a := by unfold amt; rw [if_neg ha]
    rw [ea] at ca
    have hn : nearS a b d = rndUp (a * b) d := by unfold nearS; rw [if_neg ha]
    obtain ⟨pp0, pp1⟩ := mul_bound (a := a) (b := b) (n := 1000000000000) (m := 1000000000000) (by omega) (by omega) (by omega) (by omega)
    have cm := mul_ok (x := a) (y := b) (by omega) (by omega) (by omega) (by omega)
    simp -dsimp [ha, nb]
    refine call_pure ca (by simp) rfl ?_
    simp -dsimp
    refine call_pure cb (by simp) rfl ?_
    simp -dsimp
    refine call_pure cm (by simp) rfl ?_
    generalize a * b = p at *
    have hbig := big_q (p := p) hd0
    have hdv := dv_ok (p := p) pp0 hd0 hd1
    have q0 : 0 ≤ p / d := Int.ediv_nonneg pp0 (by omega)
    have q1 : 0 ≤ p % d := Int.emod_nonneg p (by omega)
    have q2 : p % d < d := Int.emod_lt_of_pos p (by omega)
    simp -dsimp [wd]
    by_cases c1 : d ≤ p / 18446744073709551616
    · have e : nearS a b d = 4611686018427387904 := by rw [hn]; unfold rndUp; rw [if_pos (by have := hbig c1; omega)]
      simp -dsimp [c1, e]
    · simp -dsimp [c1, wd]
      refine call_pure (hdv c1) (by simp) rfl ?_
      unfold rndUp at hn
      generalize p / d = q at *
      generalize p % d = r at *
      simp -dsimp
      by_cases c2 : 4611686018427387903 ≤ q
      · have e : nearS a b d = 4611686018427387904 := by rw [hn, if_pos c2]
        simp -dsimp [c2, e]
      · have w1 : IntKind.u64.wrap (d - r) = d - r := u64w (by omega) (by omega)
        have w2 : IntKind.u64.wrap (q + 1) = q + 1 := u64w (by omega) (by omega)
        have w3 : IntKind.i64.wrap (q + 1) = q + 1 := w_i64 (by omega) (by omega)
        have w4 : IntKind.i64.wrap q = q := w_i64 (by omega) (by omega)
        rw [if_neg (show ¬ q ≥ 4611686018427387903 from c2)] at hn
        by_cases c3 : d - r ≤ r
        · rw [if_pos (show r ≥ d - r from c3)] at hn
          simp -dsimp [c2, wd, w1, c3, w2, w3, hn]
        · rw [if_neg (show ¬ r ≥ d - r from c3)] at hn
          simp -dsimp [c2, wd, w1, c3, w4, hn]
theorem divided_ok {a b d : Int} (ha0 : 0 ≤ a) (ha1 : a ≤ 1000000000000) (hb0 : 0 ≤ b) (hb1 : b ≤ 1000000000000) (hd0 : 1 ≤ d) (hd1 : d ≤ 1000000000000) :
    OkF Try.prog 148 [.int .i64 a, .int .i64 b, .int .i64 d] (.tup [.int .i64 (divR (a * b) d).1, .int .i64 (divR (a * b) d).2], []) := by
  refine OkF.W0 hm h148 (of_decide_eq_true rfl) ?_
  unfold c148
  have wa : IntKind.u64.wrap a = a := u64w (by omega) (by omega)
  have wb : IntKind.u64.wrap b = b := u64w (by omega) (by omega)
  have wd : IntKind.u64.wrap d = d := u64w (by omega) (by omega)
  obtain ⟨pp0, pp1⟩ := mul_bound (a := a) (b := b) (n := 1000000000000) (m := 1000000000000) (by omega) (by omega) (by omega) (by omega)
  have cm := mul_ok (x := a) (y := b) (by omega) (by omega) (by omega) (by omega)
  simp -dsimp [wa, wb]
  refine call_pure cm (by simp) rfl ?_
  generalize a * b = p at *
  have hbig := big_q (p := p) hd0
  have hdv := dv_ok (p := p) pp0 hd0 hd1
  have q0 : 0 ≤ p / d := Int.ediv_nonneg pp0 (by omega)
  have q1 : 0 ≤ p % d := Int.emod_nonneg p (by omega)
  have q2 : p % d < d := Int.emod_lt_of_pos p (by omega)
  have hn : divR p d = if 4611686018427387904 ≤ p / d then (4611686018427387904, 0) else (p / d, p % d) := rfl
  simp -dsimp [wd]
  by_cases c1 : d ≤ p / 18446744073709551616
  · rw [if_pos (hbig c1)] at hn
    simp -dsimp [c1, hn]
  · simp -dsimp [c1, wd]
    refine call_pure (hdv c1) (by simp) rfl ?_
    generalize p / d = q at *
    generalize p % d = r at *
    simp -dsimp
    by_cases c2 : 4611686018427387904 ≤ q
    · rw [if_pos c2] at hn
      simp -dsimp [c2, hn]
    · rw [if_neg c2] at hn
      have w3 : IntKind.i64.wrap r = r := w_i64 (by omega) (by omega)
      have w4 : IntKind.i64.wrap q = q := w_i64 (by omega) (by omega)
      simp -dsimp [c2, hn, w3, w4]
theorem divR_rng {p d : Int} (h0 : 0 ≤ p) (hd0 : 1 ≤ d) : 0 ≤ (divR p d).1 ∧ (divR p d).1 ≤ 4611686018427387904 ∧ 0 ≤ (divR p d).2 ∧ (divR p d).2 < d := by
  have q0 : 0 ≤ p / d := Int.ediv_nonneg h0 (by omega)
  have q1 : 0 ≤ p % d := Int.emod_nonneg p (by omega)
  have q2 : p % d < d := Int.emod_lt_of_pos p (by omega)
  unfold divR
  split
  · simp only; omega
  · simp only; omega
theorem nearestR_ok {a b d : Int} (ha0 : -1000000000000 ≤ a) (ha1 : a ≤ 1000000000000) (hb0 : 0 ≤ b) (hb1 : b ≤ 1000000000000) (hd0 : 1 ≤ d) (hd1 : d ≤ 1000000000000) :
    OkF Try.prog 138 [.int .i64 a, .int .i64 b, .int .i64 d] (.int .i64 (nearR a b d), []) := by
  refine OkF.W0 hm h138 (of_decide_eq_true rfl) ?_
  unfold c138
  by_cases ha : a < 0
  · have hn : nearR a b d = -(if d < 2 * (divR (-a * b) d).2 then (divR (-a * b) d).1 + 1 else (divR (-a * b) d).1) := by unfold nearR; rw [if_pos ha]
    have cd := divided_ok (a := -a) (b := b) (d := d) (by omega) (by omega) hb0 hb1 hd0 hd1
    obtain ⟨r1, r2, r3, r4⟩ := divR_rng (p := -a * b) (d := d) (Int.mul_nonneg (by omega) hb0) hd0
    have w0 : IntKind.i64.wrap (-a) = -a := w_i64 (by omega) (by omega)
    generalize divR (-a * b) d = z at *
    obtain ⟨q, r⟩ := z
    simp only at hn cd r1 r2 r3 r4
    have w1 : IntKind.i64.wrap (2 * r) = 2 * r := w_i64 (by omega) (by omega)
    have w2 : IntKind.i64.wrap (q + 1) = q + 1 := w_i64 (by omega) (by omega)
    have w3 : IntKind.i64.wrap (-(q + 1)) = -(q + 1) := w_i64 (by omega) (by omega)
    have w4 : IntKind.i64.wrap (-q) = -q := w_i64 (by omega) (by omega)
    simp -dsimp [ha, w0]
    refine call_pure cd (by simp) rfl ?_
    simp -dsimp [w1]
    by_cases c : d < 2 * r
    · rw [if_pos c] at hn
      simp -dsimp [c, w2, w3, hn]
    · rw [if_neg c] at hn
      simp -dsimp [c, w4, hn]
  · have hn : nearR a b d = if d ≤ 2 * (divR (a * b) d).2 then (divR (a * b) d).1 + 1 else (divR (a * b) d).1 := by unfold nearR; rw [if_neg ha]
    have cd := divided_ok (a := a) (b := b) (d := d) (by omega) (by omega) hb0 hb1 hd0 hd1
    obtain ⟨r1, r2, r3, r4⟩ := divR_rng (p := a * b) (d := d) (Int.mul_nonneg (by omega) hb0) hd0
    generalize divR (a * b) d = z at *
    obtain ⟨q, r⟩ := z
    simp only at hn cd r1 r2 r3 r4
    have w1 : IntKind.i64.wrap (2 * r) = 2 * r := w_i64 (by omega) (by omega)
    have w2 : IntKind.i64.wrap (q + 1) = q + 1 := w_i64 (by omega) (by omega)
    simp -dsimp [ha]
    refine call_pure cd (by simp) rfl ?_
    simp -dsimp [w1]
    by_cases c : d ≤ 2 * r
    · rw [if_pos c] at hn
      simp -dsimp [c, w2, hn]
    · rw [if_neg c] at hn
      simp -dsimp [c, hn]
theorem through_ok {m : List Mark} (g : Good m) {i : Nat} (hi : i + 1 < m.length) {tick : Int} (h0 : 0 ≤ tick) (h1 : tick ≤ 1000000000000) :
    OkF Try.prog 119 [mkV (mAt m i), mkV (mAt m (i + 1)), .int .i64 tick] (.int .i64 (segR m i tick), []) := by
  refine OkF.W0 hm h119 (of_decide_eq_true rfl) ?_
  unfold c119 segR
  have hs := g.inc i (i + 1) (by omega) hi
  obtain ⟨⟨a1, a2⟩, ⟨a3, a4⟩, _⟩ := g.ok i (by omega)
  obtain ⟨⟨b1, b2⟩, ⟨b3, b4⟩, _⟩ := g.ok (i + 1) hi
  generalize mAt m i = x at *
  generalize mAt m (i + 1) = y at *
  have w1 : IntKind.i64.wrap (tick - x.1) = tick - x.1 := w_i64 (by omega) (by omega)
  have w2 : IntKind.i64.wrap (y.2.1 - x.2.1) = y.2.1 - x.2.1 := w_i64 (by omega) (by omega)
  have w3 : IntKind.i64.wrap (y.1 - x.1) = y.1 - x.1 := w_i64 (by omega) (by omega)
  have hr := near_rng (a := tick - x.1) (b := y.2.1 - x.2.1) (d := y.1 - x.1) (by omega) (by omega)
  have cn := nearestR_ok (a := tick - x.1) (b := y.2.1 - x.2.1) (d := y.1 - x.1) (by omega) (by omega) (by omega) (by omega) (by omega) (by omega)
  simp -dsimp [w1, w2, w3]
  refine call_pure cn (by simp) rfl ?_
  generalize nearR _ _ _ = z at *
  have w4 : IntKind.i64.wrap (x.2.1 + z) = x.2.1 + z := w_i64 (by omega) (by omega)
  simp -dsimp [w4]
end Go.Proofs.P3
end
section
set_option linter.unusedVariables false
set_option linter.unusedSimpArgs false
set_option maxRecDepth 10000
set_option maxHeartbeats 8000000
namespace Go.Proofs.P3
open Go.Ex
theorem m_ia1 {h : Hp} {k : Nat} {kk : IntKind} {K : V → List Nat → Prop} {l : List Mark} {a : Mark} (e : l[k + 1]? = some a) : iaddrK h (.ro l.length (fl markCd l)) (.int kk ((k : Int) + 1)) 3 K ⟨⟩ = K (.rp (fl markCd l) ((k + 1) * 3)) [] := m_ia e
theorem line1_body : hasBody Try.prog 136 = true := by kernel_rfl
theorem line1_ex (x : Mark) (hx : markOk x) {tick : Int} (t0 : 0 ≤ tick) (t1 : tick ≤ 1000000000001) {h : Hp} {nx : Nat} : SEx Try.prog 136 ([mkV x, .int .i64 tick] ++ []) h nx (Quiet (.int .i64 (x.1 - tick)) h nx) := by
  refine SEx.of hm h136 (of_decide_eq_true rfl) ?_
  unfold c136
  have w : IntKind.i64.wrap (x.1 - tick) = x.1 - tick := w_i64 (by have := hx.1; omega) (by have := hx.1; omega)
  simp -dsimp [w]
  exact ⟨rfl, by omega, fun j hj => by simp only [upd]; rw [if_neg (by omega)]⟩
def BM (l : List Mark) (tick : Int) (p : Nat) (h : Hp) (nx : Nat) (n : Nat) (t : St) : Prop := ∃ i j : Nat, n = j - i ∧ i ≤ p ∧ p ≤ j ∧ j ≤ l.length ∧ t.t 9 = .int .i64 i ∧ t.t 10 = .int .i64 j ∧ t.t 0 = rM l ∧ t.t 1 = .int .i64 tick ∧ t.t 2 = .fn 136 [] ∧ t.t 8 = .int .i64 l.length ∧ nx ≤ t.nx ∧ ∀ j, j < nx → t.h j = h j
theorem bsm_ok {l : List Mark} (g : Good l) {tick : Int} (t0 : 0 ≤ tick) (t1 : tick ≤ 1000000000001) {h : Hp} {nx : Nat} :
    SEx Try.prog 135 [rM l, .int .i64 tick, .fn 136 []] h nx (fun v h' nx' => (∃ b, v = .tup [.int .i64 (cnt l tick), .bool b]) ∧ nx ≤ nx' ∧ ∀ j, j < nx → h' j = h j) := by
  have hc := cnt_is g tick
  have hl := g.most
  have hp := hc.le
  have hM : ∀ k : Nat, k < l.length → decide ((mAt l k).1 - tick < 0) = decide (k < cnt l tick) := fun k hk => by
    by_cases q : k < cnt l tick
    · have := hc.lo k q; simp [q]; omega
    · have := hc.hi k (by omega) hk; simp [q]; omega
  generalize cnt l tick = p at *
  refine SEx.of hm h135 (of_decide_eq_true rfl) ?_
  unfold c135
  simp -dsimp
  refine loop_dec (BM l tick p h nx) l.length ?_ (fun n t hI => ?_)
  · exact ⟨0, l.length, rfl, by omega, hp, Nat.le_refl _, by simp -dsimp, by simp -dsimp, by simp -dsimp, by simp -dsimp, by simp -dsimp, by simp -dsimp, by simp -dsimp, by simp -dsimp⟩
  · obtain ⟨i, j, hn, hip, hpj, hjl, i9, i10, i0, i1, i2, i8, inx, ih⟩ := hI
    unfold l135_0
    by_cases hij : i < j
    · have hij' : (i : Int) < (j : Int) := by omega
      have hw1 : IntKind.i64.wrap ((i : Int) + (j : Int)) = (i : Int) + (j : Int) := IntWalk.i64_in _ (by omega)
      have hw2 : IntKind.u64.wrap ((i : Int) + (j : Int)) = (i : Int) + (j : Int) := IntWalk.u64_in _ (by omega)
      have hfd : ((i : Int) + (j : Int)).fdiv (2 ^ min 1 IntKind.u64.bits) = (((i + j) / 2 : Nat) : Int) := by
        have : (2 : Int) ^ min 1 IntKind.u64.bits = 2 := by decide
        rw [this, Int.fdiv_eq_ediv_of_nonneg _ (by omega)]
        omega
      have hw3 : IntKind.i64.wrap (((i + j) / 2 : Nat) : Int) = (((i + j) / 2 : Nat) : Int) := IntWalk.i64_in _ (by omega)
      have hm1 : i ≤ (i + j) / 2 := by omega
      have hm2 : (i + j) / 2 < j := by omega
      generalize (i + j) / 2 = m at hfd hw3 hm1 hm2
      have hg := get_mAt (l := l) (k := m) (by omega)
      have hMy := hM m (by omega)
      have hok := g.ok m (by omega)
      generalize mAt l m = y at *
      have hw4 : IntKind.i64.wrap ((m : Int) + 1) = (m : Int) + 1 := IntWalk.i64_in _ (by omega)
      simp -dsimp [i9, i10, i0, i2, i1, hij', hw1, hw2, hfd, hw3, m_ia hg, m_ld hg]
      refine calv_ex (Q := Quiet (.int .i64 (y.1 - tick)) t.h t.nx) line1_body (line1_ex y hok t0 t1) ?_
      rintro v h' nx' ⟨rfl, q1, q2⟩
      have hMy' : decide (y.1 < tick) = decide (m < p) := by rw [← hMy]; simp; omega
      have hfr : ∀ j, j < nx → h' j = h j := fun j hj => by rw [q2 j (by omega), ih j hj]
      simp -dsimp
      by_cases hmp : m < p
      · have hyt : y.1 - tick < 0 := by rw [← decide_eq_true_iff (p := y.1 - tick < 0), hMy]; simpa using hmp
        simp -dsimp [hyt, hw4, i9, i10, i0, i2, i1, i8]
        exact ⟨j - (m + 1), by omega, m + 1, j, rfl, by omega, by omega, by omega, by simp -dsimp, by simp -dsimp [i10], by simp -dsimp [i0], by simp -dsimp [i1], by simp -dsimp [i2], by simp -dsimp [i8], by simp -dsimp; omega, by simpa using hfr⟩
      · have hyt : ¬ y.1 - tick < 0 := by rw [← decide_eq_true_iff (p := y.1 - tick < 0), hMy]; simpa using hmp
        simp -dsimp [hyt, i9, i10, i0, i2, i1, i8]
        exact ⟨m - i, by omega, i, m, rfl, by omega, by omega, by omega, by simp -dsimp [i9], by simp -dsimp, by simp -dsimp [i0], by simp -dsimp [i1], by simp -dsimp [i2], by simp -dsimp [i8], by simp -dsimp; omega, by simpa using hfr⟩
    · have : i = p := by omega
      subst this
      have hij' : ¬ (i : Int) < (j : Int) := by omega
      simp -dsimp [i9, i10, i0, i2, i1, i8, hij']
      by_cases hil : i < l.length
      · have hg := get_mAt (l := l) (k := i) hil
        have hok := g.ok i hil
        generalize mAt l i = y at *
        simp -dsimp [hil, i0, i9, i1, m_ia hg, m_ld hg, i2]
        refine calv_ex (Q := Quiet (.int .i64 (y.1 - tick)) t.h t.nx) line1_body (line1_ex y hok t0 t1) ?_
        rintro v h' nx' ⟨rfl, q1, q2⟩
        simp -dsimp
        exact ⟨by omega, fun j hj => by rw [q2 j (by omega), ih j hj]⟩
      · simp -dsimp [hil]
        exact ⟨inx, ih⟩
theorem line_ok {l : List Mark} (g : Good l) (h2 : 2 ≤ l.length) {tick : Int} (t0 : 0 ≤ tick) (t1 : tick ≤ 1000000000000) : OkF Try.prog 117 [rM l, .int .i64 tick] (.int .i64 (lineS l tick), []) := by
  refine OkF.W0 hm h117 (of_decide_eq_true rfl) ?_
  unfold c117
  have w1 : IntKind.i64.wrap (tick + 1) = tick + 1 := w_i64 (by omega) (by omega)
  have hc := (cnt_is g (tick + 1)).le
  have hl := g.most
  have w2 : IntKind.i64.wrap ((cnt l (tick + 1) : Int) - 1) = (cnt l (tick + 1) : Int) - 1 := w_i64 (by omega) (by omega)
  have w3 : IntKind.i64.wrap ((l.length : Int) - 2) = (l.length : Int) - 2 := w_i64 (by omega) (by omega)
  have e : min (max ((cnt l (tick + 1) : Int) - 1) 0) ((l.length : Int) - 2) = (lineS l tick : Int) := by unfold lineS; omega
  simp -dsimp [w1]
  refine shr_ex (bsm_ok g (by omega) (by omega)) ?_
  rintro v h' nx' ⟨⟨b, rfl⟩, hn, hf⟩
  simp -dsimp [w2, w3, e]
theorem seg_rng {m : List Mark} (g : Good m) {i : Nat} (hi : i + 1 < m.length) (tick : Int) : -4611686018427387904 ≤ segS m i tick ∧ segS m i tick ≤ 4611687018427387904 := by
  have hs := g.inc i (i + 1) (by omega) hi
  have ok := g.ok i (by omega)
  have := near_range (a := tick - (mAt m i).1) (b := (mAt m (i + 1)).2.1 - (mAt m i).2.1) (d := (mAt m (i + 1)).1 - (mAt m i).1) (by omega) (by omega)
  unfold segS
  have := ok.2.1
  omega
theorem at_ok {l : List Mark} (g : Good l) (h2 : 2 ≤ l.length) {tick : Int} (t0 : 0 ≤ tick) (t1 : tick ≤ 1000000000000) : OkF Try.prog 73 [rM l, .int .i64 tick] (.int .i64 (atS l tick), []) := by
  refine OkF.W0 hm h73 (of_decide_eq_true rfl) ?_
  unfold c73 atS
  have hlt := (line_is g h2 tick).lt
  have hln := line_ok g h2 t0 t1
  have hl := g.most
  generalize lineS l tick = i at *
  have hr := seg_rng g hlt tick
  have hseg : segS l i tick = (mAt l i).2.1 + nearS (tick - (mAt l i).1) ((mAt l (i + 1)).2.1 - (mAt l i).2.1) ((mAt l (i + 1)).1 - (mAt l i).1) := rfl
  have hs := g.inc i (i + 1) (by omega) hlt
  obtain ⟨⟨a1, a2⟩, ⟨a3, a4⟩, _⟩ := g.ok i (by omega)
  obtain ⟨⟨b1, b2⟩, ⟨b3, b4⟩, _⟩ := g.ok (i + 1) hlt
  have hg := get_mAt (l := l) (k := i) (by omega)
  have hg' := get_mAt (l := l) (k := i + 1) hlt
  generalize mAt l i = x at *
  generalize mAt l (i + 1) = y at *
  have w0 : IntKind.i64.wrap ((i : Int) + 1) = ((i + 1 : Nat) : Int) := by rw [IntWalk.i64_in _ (by omega)]; simp
  have w1 : IntKind.i64.wrap (tick - x.1) = tick - x.1 := w_i64 (by omega) (by omega)
  have w2 : IntKind.i64.wrap (y.2.1 - x.2.1) = y.2.1 - x.2.1 := w_i64 (by omega) (by omega)
  have w3 : IntKind.i64.wrap (y.1 - x.1) = y.1 - x.1 := w_i64 (by omega) (by omega)
  have cn := Nearest_ok (a := tick - x.1) (b := y.2.1 - x.2.1) (d := y.1 - x.1) (by omega) (by omega) (by omega) (by omega) (by omega) (by omega)
  have w4 : IntKind.i64.wrap (x.2.1 + nearS (tick - x.1) (y.2.1 - x.2.1) (y.1 - x.1)) = x.2.1 + nearS (tick - x.1) (y.2.1 - x.2.1) (y.1 - x.1) := w_i64 (by omega) (by omega)
  simp -dsimp
  refine call_pure hln (by simp) rfl ?_
  simp -dsimp [w0, m_ia hg, m_ia1 hg', m_ld hg, m_ld hg', w1, w2, w3]
  refine call_pure cn (by simp) rfl ?_
  simp -dsimp [w4, hseg]
theorem timeAt_ok {l : List Mark} (g : Good l) (h2 : 2 ≤ l.length) {tick : Int} (t0 : 0 ≤ tick) (t1 : tick ≤ 1000000000000) : OkF Try.prog 74 [rM l, .int .i64 tick] (.int .i64 (atR l tick), []) := by
  refine OkF.W0 hm h74 (of_decide_eq_true rfl) ?_
  unfold c74
  have hl := g.most
  simp -dsimp
  refine loop_to 5 l.length (fun k t => t.t 5 = .int .i64 k ∧ t.t 0 = rM l ∧ t.t 1 = .int .i64 tick ∧ k + 2 ≤ l.length ∧ ((mAt l k).1 ≤ tick ∨ k = 0)) (fun k t h => h.1) ?_ (fun k t hkl hI => ?_)
  · simp -dsimp [h2]
  · obtain ⟨i5, i0, i1, hk2, hd⟩ := hI
    have hw : IntKind.i64.wrap ((k : Int) + 1) = ((k + 1 : Nat) : Int) := by rw [IntWalk.i64_in _ (by omega)]; simp
    have hw2 : IntKind.i64.wrap ((k : Int) + 2) = (k : Int) + 2 := IntWalk.i64_in _ (by omega)
    have hg := get_mAt (l := l) (k := k) (by omega)
    have hg' := get_mAt (l := l) (k := k + 1) (by omega)
    have fin : LineOf l tick k → lineS l tick = k := fun hL => (line_is g h2 tick).unique g hL
    unfold l74_0
    have hout : LineOf l tick k → atR l tick = segR l k tick := fun hL => by unfold atR; rw [fin hL]
    by_cases c1 : k + 2 < l.length
    · have c1' : (k : Int) + 2 < (l.length : Int) := by omega
      by_cases c2 : (mAt l (k + 1)).1 ≤ tick
      · simp -dsimp [i5, i0, i1, hw2, c1', c1, hw, m_ia1 hg', m_l0 hg', c2]
        omega
      · have e := hout ⟨by omega, .inl (by omega), hd⟩
        simp -dsimp [i5, i0, i1, hw2, c1', c1, hw, m_ia1 hg', m_l0 hg', c2, m_ia hg, m_ld hg, m_ld hg']
        refine call_pure (through_ok g (by omega) t0 t1) (by simp) rfl ?_
        simp -dsimp [e]
    · have c1' : ¬ (k : Int) + 2 < (l.length : Int) := by omega
      have e := hout ⟨by omega, .inr (by omega), hd⟩
      simp -dsimp [i5, i0, i1, hw2, c1', c1, hw, m_ia1 hg', m_l0 hg', m_ia hg, m_ld hg, m_ld hg']
      refine call_pure (through_ok g (by omega) t0 t1) (by simp) rfl ?_
      simp -dsimp [e]
end Go.Proofs.P3
end
section
set_option linter.unusedVariables false
set_option linter.unusedSimpArgs false
set_option maxRecDepth 10000
set_option maxHeartbeats 8000000
namespace Go.Proofs.P3
open Go.Ex
theorem inB_true {n a b : Int} (h : a ≤ n ∧ n ≤ b) : inB n a b = true := by unfold inB; simp [h.1, h.2]
theorem inB_false {n a b : Int} (h : ¬ (a ≤ n ∧ n ≤ b)) : inB n a b = false := by
  unfold inB
  by_cases q : a ≤ n
  · simp [q]; omega
  · simp [q]
theorem TimeOf_ok (l : List Mark) (tick : Int) : OkF Try.prog 25 [rM l, .int .i64 tick] (.tup [.int .i64 (timeS l tick).1, .int .i64 (timeS l tick).2], []) := by
  refine OkF.W0 hm h25 (of_decide_eq_true rfl) ?_
  unfold c25
  simp -dsimp
  refine call_pure (CheckMarks_ok l) (by simp) rfl ?_
  simp -dsimp
  by_cases a0 : marksE l = 0
  rotate_left
  · have e : timeS l tick = (0, marksE l) := by unfold timeS; rw [if_neg a0]
    simp -dsimp [a0, e]
  have g := Good.of (marks_good a0)
  have hl := g.most; have hp := g.pos
  simp -dsimp [a0]
  refine call_pure (In_ok _ _ _) (by simp) rfl ?_
  by_cases ht : 0 ≤ tick ∧ tick ≤ 1000000000000
  rotate_left
  · have e : timeS l tick = (0, 1) := by unfold timeS; rw [if_pos a0, if_neg ht]
    rw [inB_false ht]
    simp -dsimp [e]
  rw [inB_true ht]
  simp -dsimp
  by_cases h1 : l.length = 1
  · have e : timeS l tick = (0, 11) := by unfold timeS; rw [if_pos a0, if_pos ht, if_pos h1]
    simp -dsimp [h1, e]
  have h1' : ¬ (l.length : Int) = 1 := by omega
  simp -dsimp [h1, h1']
  refine call_pure (at_ok g (by omega) ht.1 ht.2) (by simp) rfl ?_
  simp -dsimp
  refine call_pure (In_ok _ _ _) (by simp) rfl ?_
  by_cases hn : 0 ≤ atS l tick ∧ atS l tick ≤ 1000000000000
  · have e : timeS l tick = (atS l tick, 0) := by unfold timeS; rw [if_pos a0, if_pos ht, if_neg h1, if_pos hn]
    rw [inB_true hn]
    simp -dsimp [e]
  · have e : timeS l tick = (0, 1) := by unfold timeS; rw [if_pos a0, if_pos ht, if_neg h1, if_neg hn]
    rw [inB_false hn]
    simp -dsimp [e]
theorem TimeOfR_ok (l : List Mark) (tick : Int) : OkF Try.prog 26 [rM l, .int .i64 tick] (.tup [.int .i64 (timeS l tick).1, .int .i64 (timeS l tick).2], []) := by
  refine OkF.W0 hm h26 (of_decide_eq_true rfl) ?_
  unfold c26
  simp -dsimp
  refine call_pure (CheckMarksR_ok l) (by simp) rfl ?_
  simp -dsimp
  by_cases a0 : marksE l = 0
  rotate_left
  · have e : timeS l tick = (0, marksE l) := by unfold timeS; rw [if_neg a0]
    simp -dsimp [a0, e]
  have g := Good.of (marks_good a0)
  have hl := g.most; have hp := g.pos
  simp -dsimp [a0]
  refine call_pure (within2_ok _ _ _) (by simp) rfl ?_
  by_cases ht : 0 ≤ tick ∧ tick ≤ 1000000000000
  rotate_left
  · have e : timeS l tick = (0, 1) := by unfold timeS; rw [if_pos a0, if_neg ht]
    rw [inB_false ht]
    simp -dsimp [e]
  rw [inB_true ht]
  simp -dsimp
  by_cases h1 : l.length = 1
  · have e : timeS l tick = (0, 11) := by unfold timeS; rw [if_pos a0, if_pos ht, if_pos h1]
    simp -dsimp [h1, e]
  have h1' : ¬ (l.length : Int) = 1 := by omega
  simp -dsimp [h1, h1']
  refine call_pure (timeAt_ok g (by omega) ht.1 ht.2) (by simp) rfl ?_
  have hf := at_far g (by omega) tick
  unfold Far at hf
  simp -dsimp
  refine call_pure (within2_ok _ _ _) (by simp) rfl ?_
  by_cases hn : 0 ≤ atS l tick ∧ atS l tick ≤ 1000000000000
  · have e : timeS l tick = (atS l tick, 0) := by unfold timeS; rw [if_pos a0, if_pos ht, if_neg h1, if_pos hn]
    have er : atR l tick = atS l tick := by omega
    rw [er, inB_true hn]
    simp -dsimp [e]
  · have e : timeS l tick = (0, 1) := by unfold timeS; rw [if_pos a0, if_pos ht, if_neg h1, if_neg hn]
    rw [inB_false (show ¬ (0 ≤ atR l tick ∧ atR l tick ≤ 1000000000000) by omega)]
    simp -dsimp [e]
theorem tick_ex {m : List Mark} {time : Int} (h : time ≤ atS m 1000000000000) : ∃ n, IsTick m time n := by
  have key : ∀ k : Nat, k ≤ 1000000000001 → (∀ t : Int, 0 ≤ t → t < k → atS m t < time) ∨ ∃ n, IsTick m time n := by
    intro k
    induction k with
    | zero => intro _; exact .inl fun t a b => by omega
    | succ k ih =>
      intro hk
      rcases ih (by omega) with q | q
      · by_cases c : atS m k < time
        · refine .inl fun t a b => ?_
          by_cases e : t = k
          · rw [e]; exact c
          · exact q t a (by omega)
        · exact .inr ⟨k, ⟨by omega, by omega⟩, by omega, q⟩
      · exact .inr q
  rcases key 1000000000001 (Nat.le_refl _) with q | q
  · have := q 1000000000000 (by omega) (by omega)
    omega
  · exact q
open Classical in
noncomputable def tickN (m : List Mark) (time : Int) : Int := if h : ∃ n, IsTick m time n then Classical.choose h else 0
theorem tickN_of {m : List Mark} {time n : Int} (h : IsTick m time n) : tickN m time = n := by
  have hx : ∃ n, IsTick m time n := ⟨n, h⟩
  unfold tickN
  rw [dif_pos hx]
  exact (Classical.choose_spec hx).unique h
noncomputable def tickS (m : List Mark) (time : Int) : Int × Int :=
  if marksE m = 0 then (if 0 ≤ time ∧ time ≤ 1000000000000 then (if m.length = 1 then (0, 11) else (if atS m 1000000000000 < time then (0, 1) else (tickN m time, 0))) else (0, 1)) else (0, marksE m)
theorem TickOf_ok (l : List Mark) (time : Int) : OkF Try.prog 27 [rM l, .int .i64 time] (.tup [.int .i64 (tickS l time).1, .int .i64 (tickS l time).2], []) := by
  refine OkF.W0 hm h27 (of_decide_eq_true rfl) ?_
  unfold c27
  simp -dsimp
  refine call_pure (CheckMarks_ok l) (by simp) rfl ?_
  simp -dsimp
  by_cases a0 : marksE l = 0
  rotate_left
  · have e : tickS l time = (0, marksE l) := by unfold tickS; rw [if_neg a0]
    simp -dsimp [a0, e]
  have g := Good.of (marks_good a0)
  have hl := g.most; have hp := g.pos
  simp -dsimp [a0]
  refine call_pure (In_ok _ _ _) (by simp) rfl ?_
  by_cases ht : 0 ≤ time ∧ time ≤ 1000000000000
  rotate_left
  · have e : tickS l time = (0, 1) := by unfold tickS; rw [if_pos a0, if_neg ht]
    rw [inB_false ht]
    simp -dsimp [e]
  rw [inB_true ht]
  simp -dsimp
  by_cases h1 : l.length = 1
  · have e : tickS l time = (0, 11) := by unfold tickS; rw [if_pos a0, if_pos ht, if_pos h1]
    simp -dsimp [h1, e]
  have h1' : ¬ (l.length : Int) = 1 := by omega
  simp -dsimp [h1, h1']
  refine call_pure (at_ok g (by omega) (by decide) (by decide)) (by simp) rfl ?_
  simp -dsimp
  by_cases hb : atS l 1000000000000 < time
  · have e : tickS l time = (0, 1) := by unfold tickS; rw [if_pos a0, if_pos ht, if_neg h1, if_pos hb]
    simp -dsimp [hb, e]
  have e : tickS l time = (tickN l time, 0) := by unfold tickS; rw [if_pos a0, if_pos ht, if_neg h1, if_neg hb]
  have h2 : 2 ≤ l.length := by omega
  simp -dsimp [hb]
  refine loop_dec (fun n t => ∃ lo hi : Int, n = (hi - lo).toNat ∧ -1 ≤ lo ∧ lo < hi ∧ hi ≤ 1000000000000 ∧ (∀ t, 0 ≤ t → t ≤ lo → atS l t < time) ∧ time ≤ atS l hi ∧ t.t 0 = rM l ∧ t.t 1 = .int .i64 time ∧ t.t 7 = .int .i64 lo ∧ t.t 8 = .int .i64 hi) 1000000000001 ?_ (fun n t hI => ?_)
  · exact ⟨-1, 1000000000000, rfl, by omega, by omega, by omega, fun t a b => by omega, by omega, by simp -dsimp, by simp -dsimp, by simp -dsimp, by simp -dsimp⟩
  · obtain ⟨lo, hi, hn, k1, k2, k3, k4, k5, i0, i1, i7, i8⟩ := hI
    have w1 : IntKind.i64.wrap (hi - lo) = hi - lo := w_i64 (by omega) (by omega)
    unfold l27_0
    by_cases c : 1 < hi - lo
    · have e1 : (hi - lo).tdiv 2 = (hi - lo) / 2 := Int.tdiv_eq_ediv_of_nonneg (by omega)
      have w2 : IntKind.i64.wrap ((hi - lo) / 2) = (hi - lo) / 2 := w_i64 (by omega) (by omega)
      have m1 : lo < lo + (hi - lo) / 2 := by omega
      have m2 : lo + (hi - lo) / 2 < hi := by omega
      have w3 : IntKind.i64.wrap (lo + (hi - lo) / 2) = lo + (hi - lo) / 2 := w_i64 (by omega) (by omega)
      generalize hm0 : lo + (hi - lo) / 2 = mid at *
      simp -dsimp [i7, i8, w1, c, e1, w2, hm0, w3, i0]
      refine call_pure (at_ok g h2 (by omega) (by omega)) (by simp) rfl ?_
      simp -dsimp [i1]
      by_cases d : atS l mid < time
      · simp -dsimp [d]
        exact ⟨(hi - mid).toNat, by omega, mid, hi, rfl, by omega, m2, k3, fun t a b => by have := at_mono g h2 (t := t) (u := mid) a (by omega) b; omega, k5, by simp -dsimp [i0], by simp -dsimp [i1], by simp -dsimp, by simp -dsimp [i8]⟩
      · simp -dsimp [d]
        exact ⟨(mid - lo).toNat, by omega, lo, mid, rfl, by omega, m1, by omega, k4, by omega, by simp -dsimp [i0], by simp -dsimp [i1], by simp -dsimp [i7], by simp -dsimp⟩
    · have ht : IsTick l time hi := ⟨⟨by omega, k3⟩, k5, fun t t0 t1 => k4 t t0 (by omega)⟩
      have et := tickN_of ht
      simp -dsimp [i7, i8, w1, c, e, et]
theorem TickOfR_ok (l : List Mark) (time : Int) : OkF Try.prog 28 [rM l, .int .i64 time] (.tup [.int .i64 (tickS l time).1, .int .i64 (tickS l time).2], []) := by
  refine OkF.W0 hm h28 (of_decide_eq_true rfl) ?_
  unfold c28
  simp -dsimp
  refine call_pure (CheckMarksR_ok l) (by simp) rfl ?_
  simp -dsimp
  by_cases a0 : marksE l = 0
  rotate_left
  · have e : tickS l time = (0, marksE l) := by unfold tickS; rw [if_neg a0]
    simp -dsimp [a0, e]
  have g := Good.of (marks_good a0)
  have hl := g.most; have hp := g.pos
  simp -dsimp [a0]
  refine call_pure (within2_ok _ _ _) (by simp) rfl ?_
  by_cases ht : 0 ≤ time ∧ time ≤ 1000000000000
  rotate_left
  · have e : tickS l time = (0, 1) := by unfold tickS; rw [if_pos a0, if_neg ht]
    rw [inB_false ht]
    simp -dsimp [e]
  rw [inB_true ht]
  simp -dsimp
  by_cases h1 : l.length = 1
  · have e : tickS l time = (0, 11) := by unfold tickS; rw [if_pos a0, if_pos ht, if_pos h1]
    simp -dsimp [h1, e]
  have h1' : ¬ (l.length : Int) = 1 := by omega
  have h2 : 2 ≤ l.length := by omega
  have far : ∀ t, (atR l t < time ↔ atS l t < time) ∧ (time ≤ atR l t ↔ time ≤ atS l t) := fun t => by
    have := at_far g h2 t
    unfold Far at this
    omega
  simp -dsimp [h1, h1']
  refine call_pure (timeAt_ok g (by omega) (by decide) (by decide)) (by simp) rfl ?_
  simp -dsimp [(far 1000000000000).1]
  by_cases hb : atS l 1000000000000 < time
  · have e : tickS l time = (0, 1) := by unfold tickS; rw [if_pos a0, if_pos ht, if_neg h1, if_pos hb]
    simp -dsimp [hb, e]
  have e : tickS l time = (tickN l time, 0) := by unfold tickS; rw [if_pos a0, if_pos ht, if_neg h1, if_neg hb]
  simp -dsimp [hb]
  refine loop_dec (fun n t => ∃ lo hi : Int, n = (hi - lo).toNat ∧ 0 ≤ lo ∧ lo ≤ hi ∧ hi ≤ 1000000000000 ∧ (∀ t, 0 ≤ t → t < lo → atS l t < time) ∧ time ≤ atS l hi ∧ t.t 0 = rM l ∧ t.t 1 = .int .i64 time ∧ t.t 7 = .int .i64 lo ∧ t.t 8 = .int .i64 hi) 1000000000000 ?_ (fun n t hI => ?_)
  · exact ⟨0, 1000000000000, rfl, by omega, by omega, by omega, fun t a b => by omega, by omega, by simp -dsimp, by simp -dsimp, by simp -dsimp, by simp -dsimp⟩
  · obtain ⟨lo, hi, hn, k1, k2, k3, k4, k5, i0, i1, i7, i8⟩ := hI
    unfold l28_0
    by_cases c : lo < hi
    · have w1 : IntKind.i64.wrap (lo + hi) = lo + hi := w_i64 (by omega) (by omega)
      have e1 : (lo + hi).tdiv 2 = (lo + hi) / 2 := Int.tdiv_eq_ediv_of_nonneg (by omega)
      have w2 : IntKind.i64.wrap ((lo + hi) / 2) = (lo + hi) / 2 := w_i64 (by omega) (by omega)
      have m1 : lo ≤ (lo + hi) / 2 := by omega
      have m2 : (lo + hi) / 2 < hi := by omega
      generalize hm0 : (lo + hi) / 2 = mid at *
      have w3 : IntKind.i64.wrap (mid + 1) = mid + 1 := w_i64 (by omega) (by omega)
      simp -dsimp [i7, i8, w1, c, e1, w2, hm0, i0]
      refine call_pure (timeAt_ok g h2 (by omega) (by omega)) (by simp) rfl ?_
      simp -dsimp [i1, (far mid).2]
      by_cases d : time ≤ atS l mid
      · simp -dsimp [d]
        exact ⟨(mid - lo).toNat, by omega, lo, mid, rfl, by omega, m1, by omega, k4, by omega, by simp -dsimp [i0], by simp -dsimp [i1], by simp -dsimp [i7], by simp -dsimp⟩
      · simp -dsimp [d, w3]
        exact ⟨(hi - (mid + 1)).toNat, by omega, mid + 1, hi, rfl, by omega, by omega, k3, fun t a b => by have := at_mono g h2 (t := t) (u := mid) a (by omega) (by omega); omega, k5, by simp -dsimp [i0], by simp -dsimp [i1], by simp -dsimp, by simp -dsimp [i8]⟩
    · have ht : IsTick l time lo := ⟨⟨by omega, by omega⟩, by rw [show lo = hi by omega]; exact k5, k4⟩
      have et := tickN_of ht
      simp -dsimp [i7, i8, c, e, et]
end Go.Proofs.P3
end
section
set_option linter.unusedVariables false
set_option linter.unusedSimpArgs false
set_option maxRecDepth 10000
set_option maxHeartbeats 8000000
namespace Go.Proofs.P3
open Go.Ex
theorem gcd_step (u v : Nat) : Nat.gcd v (u % v) = Nat.gcd u v := by rw [Nat.gcd_comm u v, Nat.gcd_rec v u, Nat.gcd_comm]
theorem tmod_nat (u v : Nat) : (u : Int).tmod v = ((u % v : Nat) : Int) := rfl
theorem tdiv_nat (u v : Nat) : (u : Int).tdiv v = ((u / v : Nat) : Int) := rfl
def GI (x y : Nat) (n : Nat) (t : St) : Prop := ∃ u v : Nat, n = v ∧ t.t 0 = .int .i64 u ∧ t.t 1 = .int .i64 v ∧ Nat.gcd u v = Nat.gcd x y
theorem Gcd_ok (x y : Nat) : OkF Try.prog 120 [.int .i64 x, .int .i64 y] (.int .i64 (Nat.gcd x y : Nat), []) := by
  refine OkF.W0 hm h120 (of_decide_eq_true rfl) ?_
  unfold c120
  simp -dsimp
  refine loop_dec (GI x y) y ?_ (fun n t hI => ?_)
  · exact ⟨x, y, rfl, by simp -dsimp, by simp -dsimp, rfl⟩
  · obtain ⟨u, v, hn, i0, i1, hg⟩ := hI
    unfold l120_0
    by_cases c : 0 < v
    · have c' : (0 : Int) < (v : Int) := by omega
      have c0 : ¬ (v : Int) = 0 := by omega
      have c1 : ¬ v = 0 := by omega
      have e := tmod_nat u v
      have hlt := Nat.mod_lt u c
      have hs := gcd_step u v
      generalize u % v = w at *
      simp -dsimp [i0, i1, c, c', c0, c1, e]
      exact ⟨w, by omega, v, w, rfl, by simp -dsimp, by simp -dsimp, by rw [hs, hg]⟩
    · obtain rfl : v = 0 := by omega
      have e : u = Nat.gcd x y := by rw [← hg, Nat.gcd_zero_right]
      simp -dsimp [i0, i1]
      rw [e]
abbrev shV (x : Int × Int) : V := .agg [.int .i64 x.1, .int .i64 x.2]
/-- In lowest terms. -/
def low2 (x y : Nat) : Int × Int := ((x / Nat.gcd x y : Nat), (y / Nat.gcd x y : Nat))
theorem Lowest_ok {x y : Nat} (hx : 0 < x) (hx1 : x ≤ 1000000000000) (hy : 0 < y) (hy1 : y ≤ 1000000000000) : OkF Try.prog 75 [.int .i64 x, .int .i64 y] (shV (low2 x y), []) := by
  refine OkF.G0 hm h75 (of_decide_eq_true rfl) ?_
  unfold c75 low2
  have g0 : 0 < Nat.gcd x y := Nat.gcd_pos_of_pos_left _ hx
  have a1 := Nat.div_le_self x (Nat.gcd x y)
  have a2 := Nat.div_le_self y (Nat.gcd x y)
  have cg := Gcd_ok x y
  have e1 := tdiv_nat x (Nat.gcd x y)
  have e2 := tdiv_nat y (Nat.gcd x y)
  generalize Nat.gcd x y = g at *
  generalize x / g = p at *
  generalize y / g = q at *
  have w1 : IntKind.i64.wrap (p : Int) = p := w_i64 (by omega) (by omega)
  have w2 : IntKind.i64.wrap (q : Int) = q := w_i64 (by omega) (by omega)
  have c : ¬ (x : Int) < 0 := by omega
  have gg : ¬ (g : Int) = 0 := by omega
  have gg2 : ¬ g = 0 := by omega
  simp -dsimp [c]
  refine call_pure cg (by simp) rfl ?_
  simp -dsimp [gg, gg2, e1, e2, w1, w2, fillS]
def LI (x y : Nat) (n : Nat) (t : St) : Prop := ∃ u v : Nat, n = v ∧ t.t 5 = .int .i64 u ∧ t.t 6 = .int .i64 v ∧ t.t 0 = .int .i64 x ∧ t.t 1 = .int .i64 y ∧ t.t 4 = .pt 0 0 0 ∧ t.h 0 = some ⟨0, 0, [.int .i64 0, .int .i64 0], none⟩ ∧ Nat.gcd u v = Nat.gcd x y
theorem lowestR_ok {x y : Nat} (hx : 0 < x) (hx1 : x ≤ 1000000000000) (hy : 0 < y) (hy1 : y ≤ 1000000000000) : OkF Try.prog 77 [.int .i64 x, .int .i64 y] (shV (low2 x y), []) := by
  refine OkF.G0 hm h77 (of_decide_eq_true rfl) ?_
  unfold c77 low2
  have g0 : 0 < Nat.gcd x y := Nat.gcd_pos_of_pos_left _ hx
  have a1 := Nat.div_le_self x (Nat.gcd x y)
  have a2 := Nat.div_le_self y (Nat.gcd x y)
  have e1 := tdiv_nat x (Nat.gcd x y)
  have e2 := tdiv_nat y (Nat.gcd x y)
  simp -dsimp
  refine loop_dec (LI x y) y ?_ (fun n t hI => ?_)
  · exact ⟨x, y, rfl, by simp -dsimp, by simp -dsimp, by simp -dsimp, by simp -dsimp, by simp -dsimp, by simp -dsimp, rfl⟩
  · obtain ⟨u, v, hn, i5, i6, i0, i1, i4, h0, hg⟩ := hI
    unfold l77_0
    by_cases c : v = 0
    · subst c
      have e : u = Nat.gcd x y := by rw [← hg, Nat.gcd_zero_right]
      rw [← e] at e1 e2 a1 a2 g0
      rw [← e]
      generalize x / u = p at *
      generalize y / u = q at *
      have w1 : IntKind.i64.wrap (p : Int) = p := w_i64 (by omega) (by omega)
      have w2 : IntKind.i64.wrap (q : Int) = q := w_i64 (by omega) (by omega)
      have gg : ¬ (u : Int) = 0 := by omega
      have gg2 : ¬ u = 0 := by omega
      simp -dsimp [i5, i6, i0, i1, i4, h0, gg, gg2, e1, e2, w1, w2, fillS]
    · have c0 : ¬ (v : Int) = 0 := by omega
      have e := tmod_nat u v
      have hlt := Nat.mod_lt u (show 0 < v by omega)
      have hs := gcd_step u v
      generalize u % v = w at *
      simp -dsimp [i5, i6, c, c0, e]
      exact ⟨w, by omega, v, w, rfl, by simp -dsimp, by simp -dsimp, by simp -dsimp [i0], by simp -dsimp [i1], by simp -dsimp [i4], by simp -dsimp [h0], by rw [hs, hg]⟩
def lsB (x y : Int × Int) : Bool := decide (x.1 * y.2 < y.1 * x.2)
structure ShOk (x : Int × Int) : Prop where
  n0 : 0 < x.1
  n1 : x.1 ≤ 1000000000000
  d0 : 0 < x.2
  d1 : x.2 ≤ 1000000000000
theorem low2_ok {x y : Nat} (hx : 0 < x) (hx1 : x ≤ 1000000000000) (hy : 0 < y) (hy1 : y ≤ 1000000000000) : ShOk (low2 x y) := by
  have a1 := Nat.div_le_self x (Nat.gcd x y)
  have a2 := Nat.div_le_self y (Nat.gcd x y)
  have b1 : 0 < x / Nat.gcd x y := Nat.div_pos (Nat.gcd_le_left _ hx) (Nat.gcd_pos_of_pos_left _ hx)
  have b2 : 0 < y / Nat.gcd x y := Nat.div_pos (Nat.gcd_le_right _ hy) (Nat.gcd_pos_of_pos_left _ hx)
  unfold low2
  exact ⟨by simp only; omega, by simp only; omega, by simp only; omega, by simp only; omega⟩
theorem less_ok {x y : Int × Int} (hx : ShOk x) (hy : ShOk y) : OkF Try.prog 76 [.int .i64 x.1, .int .i64 y.2, .int .i64 y.1, .int .i64 x.2] (.bool (lsB x y), []) := by
  refine OkF.W0 hm h76 (of_decide_eq_true rfl) ?_
  unfold c76 lsB
  obtain ⟨a, b⟩ := x
  obtain ⟨c, d⟩ := y
  obtain ⟨x1, x2, x3, x4⟩ := hx
  obtain ⟨y1, y2, y3, y4⟩ := hy
  simp only at *
  have am : ∀ z : Int, 0 < z → z ≤ 1000000000000 → OkF Try.prog 122 [.int .i64 z] (.int .u64 z, []) := fun z h0 h1 => by
    have := amount_ok (a := z) (by omega) (by omega)
    rwa [show amt z = z by unfold amt; rw [if_neg (by omega)]] at this
  obtain ⟨p0, p1⟩ := mul_bound (a := a) (b := d) (n := 1000000000000) (m := 1000000000000) (by omega) (by omega) (by omega) (by omega)
  obtain ⟨q0, q1⟩ := mul_bound (a := c) (b := b) (n := 1000000000000) (m := 1000000000000) (by omega) (by omega) (by omega) (by omega)
  have m1 := mul_ok (x := a) (y := d) (by omega) (by omega) (by omega) (by omega)
  have m2 := mul_ok (x := c) (y := b) (by omega) (by omega) (by omega) (by omega)
  have na : ¬ a < 0 := by omega
  have nb : ¬ b < 0 := by omega
  have nc : ¬ c < 0 := by omega
  have nd : ¬ d < 0 := by omega
  simp -dsimp [na, nb, nc, nd]
  refine call_pure (am a x1 x2) (by simp) rfl ?_
  simp -dsimp
  refine call_pure (am d y3 y4) (by simp) rfl ?_
  simp -dsimp
  refine call_pure m1 (by simp) rfl ?_
  simp -dsimp
  refine call_pure (am c y1 y2) (by simp) rfl ?_
  simp -dsimp
  refine call_pure (am b x3 x4) (by simp) rfl ?_
  simp -dsimp
  refine call_pure m2 (by simp) rfl ?_
  generalize a * d = p at *
  generalize c * b = q at *
  have e1 : p = p / 18446744073709551616 * 18446744073709551616 + p % 18446744073709551616 := by omega
  have e2 : q = q / 18446744073709551616 * 18446744073709551616 + q % 18446744073709551616 := by omega
  have r1 : 0 ≤ p % 18446744073709551616 ∧ p % 18446744073709551616 < 18446744073709551616 := by omega
  have r2 : 0 ≤ q % 18446744073709551616 ∧ q % 18446744073709551616 < 18446744073709551616 := by omega
  generalize p / 18446744073709551616 = ph at *
  generalize p % 18446744073709551616 = pl at *
  generalize q / 18446744073709551616 = qh at *
  generalize q % 18446744073709551616 = ql at *
  simp -dsimp
  repeat' (first | (refine wantT_of ?_ ?_ <;> intro z <;> simp -dsimp [z]) | (refine condK_of ?_ ?_ <;> intro z <;> simp -dsimp [z]))
  all_goals
    by_cases c1 : ph < qh
    · have e : p < q := by omega
      simp -dsimp [c1, e]
    · by_cases c2 : ph = qh
      · by_cases c3 : pl < ql
        · have e : p < q := by omega
          simp -dsimp [c1, eq_true c2, c3, e]
        · have e : ¬ p < q := by omega
          simp -dsimp [c1, eq_true c2, c3, e]
      · have e : ¬ p < q := by omega
        simp -dsimp [c1, c2, e]
theorem lessShare_ok {x y : Int × Int} (hx : ShOk x) (hy : ShOk y) : OkF Try.prog 78 [shV x, shV y] (.bool (lsB x y), []) := by
  refine OkF.W0 hm h78 (of_decide_eq_true rfl) ?_
  unfold c78 lsB
  obtain ⟨a, b⟩ := x
  obtain ⟨c, d⟩ := y
  obtain ⟨x1, x2, x3, x4⟩ := hx
  obtain ⟨y1, y2, y3, y4⟩ := hy
  simp only at *
  obtain ⟨p0, p1⟩ := mul_bound (a := a) (b := d) (n := 1000000000000) (m := 1000000000000) (by omega) (by omega) (by omega) (by omega)
  obtain ⟨q0, q1⟩ := mul_bound (a := c) (b := b) (n := 1000000000000) (m := 1000000000000) (by omega) (by omega) (by omega) (by omega)
  have m1 := mul_ok (x := a) (y := d) (by omega) (by omega) (by omega) (by omega)
  have m2 := mul_ok (x := c) (y := b) (by omega) (by omega) (by omega) (by omega)
  have wa : IntKind.u64.wrap a = a := u64w (by omega) (by omega)
  have wb : IntKind.u64.wrap b = b := u64w (by omega) (by omega)
  have wc : IntKind.u64.wrap c = c := u64w (by omega) (by omega)
  have wd : IntKind.u64.wrap d = d := u64w (by omega) (by omega)
  simp -dsimp [wa, wb, wc, wd]
  refine call_pure m1 (by simp) rfl ?_
  simp -dsimp [wa, wb, wc, wd]
  refine call_pure m2 (by simp) rfl ?_
  generalize a * d = p at *
  generalize c * b = q at *
  have e1 : p = p / 18446744073709551616 * 18446744073709551616 + p % 18446744073709551616 := by omega
  have e2 : q = q / 18446744073709551616 * 18446744073709551616 + q % 18446744073709551616 := by omega
  have r1 : 0 ≤ p % 18446744073709551616 ∧ p % 18446744073709551616 < 18446744073709551616 := by omega
  have r2 : 0 ≤ q % 18446744073709551616 ∧ q % 18446744073709551616 < 18446744073709551616 := by omega
  generalize p / 18446744073709551616 = ph at *
  generalize p % 18446744073709551616 = pl at *
  generalize q / 18446744073709551616 = qh at *
  generalize q % 18446744073709551616 = ql at *
  simp -dsimp
  by_cases c1 : ph < qh
  · have e : p < q := by omega
    simp -dsimp [c1, e]
  · by_cases c2 : ph = qh
    · by_cases c3 : pl < ql
      · have e : p < q := by omega
        simp -dsimp [c1, eq_true c2, c3, e]
      · have e : ¬ p < q := by omega
        simp -dsimp [c1, eq_true c2, c3, e]
    · have e : ¬ p < q := by omega
      simp -dsimp [c1, c2, e]
end Go.Proofs.P3
end
section
set_option linter.unusedVariables false
set_option linter.unusedSimpArgs false
set_option maxRecDepth 10000
set_option maxHeartbeats 8000000
namespace Go.Proofs.P3
open Go.Ex
def rtA (m : List Mark) (j : Nat) : Int × Int := low2 ((mAt m (j + 1)).2.1 - (mAt m j).2.1).toNat ((mAt m (j + 1)).1 - (mAt m j).1).toNat
def lowN (m : List Mark) : Nat → Int × Int
  | 0 => (0, 0)
  | j + 1 => if j = 0 ∨ lsB (rtA m j) (lowN m j) = true then rtA m j else lowN m j
def highN (m : List Mark) : Nat → Int × Int
  | 0 => (0, 0)
  | j + 1 => if j = 0 ∨ lsB (highN m j) (rtA m j) = true then rtA m j else highN m j
def ratesS (l : List Mark) : (Int × Int) × (Int × Int) × Int :=
  if marksE l ≠ 0 then ((0, 0), (0, 0), marksE l) else if l.length = 1 then ((0, 0), (0, 0), 11) else (lowN l (l.length - 1), highN l (l.length - 1), 0)
theorem rtA_ok {m : List Mark} (g : Good m) {j : Nat} (hj : j + 1 < m.length) : ShOk (rtA m j) := by
  have hs := g.inc j (j + 1) (by omega) hj
  have a := g.ok j (by omega)
  have b := g.ok (j + 1) hj
  obtain ⟨⟨a1, a2⟩, ⟨a3, a4⟩, _⟩ := a
  obtain ⟨⟨b1, b2⟩, ⟨b3, b4⟩, _⟩ := b
  exact low2_ok (by omega) (by omega) (by omega) (by omega)
theorem lowN_ok {m : List Mark} (g : Good m) : ∀ j, j + 1 < m.length → ShOk (lowN m (j + 1))
  | 0, h => by have := rtA_ok g h; simpa [lowN] using this
  | j + 1, h => by
    have a := lowN_ok g j (by omega)
    have b := rtA_ok g h
    unfold lowN
    split
    · exact b
    · exact a
theorem highN_ok {m : List Mark} (g : Good m) : ∀ j, j + 1 < m.length → ShOk (highN m (j + 1))
  | 0, h => by have := rtA_ok g h; simpa [highN] using this
  | j + 1, h => by
    have a := highN_ok g j (by omega)
    have b := rtA_ok g h
    unfold highN
    split
    · exact b
    · exact a
section
variable {h : Hp} {k : Nat} {l : List Mark} {a : Mark}
theorem m_l0' (e : l[k]? = some a) : ldA h (.rp (fl markCd l) (k * 3 + 0)) none = some (.int .i64 a.1) := m_l0 e
end
def RI (l : List Mark) (n : Nat) (t : St) : Prop := ∃ j : Nat, n = l.length - j ∧ j + 1 ≤ l.length ∧ t.t 8 = .int .i64 ((j : Int) + 1) ∧ t.t 0 = rM l ∧ t.t 2 = .pt 0 0 0 ∧ t.t 3 = .pt 1 0 0 ∧ t.t 6 = .pt 2 0 0 ∧ t.t 7 = .pt 3 0 0 ∧ 4 ≤ t.nx ∧ t.h 0 = some ⟨0, 0, [.int .i64 0, .int .i64 0], none⟩ ∧ t.h 1 = some ⟨0, 0, [.int .i64 0, .int .i64 0], none⟩ ∧ t.h 2 = some ⟨0, 0, [.int .i64 (lowN l j).1, .int .i64 (lowN l j).2], none⟩ ∧ t.h 3 = some ⟨0, 0, [.int .i64 (highN l j).1, .int .i64 (highN l j).2], none⟩
theorem Rates_ok (l : List Mark) : OkF Try.prog 30 [rM l] (.tup [shV (ratesS l).1, shV (ratesS l).2.1, .int .i64 (ratesS l).2.2], []) := by
  refine OkF.G0 hm h30 (of_decide_eq_true rfl) ?_
  unfold c30
  simp -dsimp
  refine call_pure (CheckMarks_ok l) (by simp) rfl ?_
  simp -dsimp
  by_cases a0 : marksE l = 0
  rotate_left
  · have e : ratesS l = ((0, 0), (0, 0), marksE l) := by unfold ratesS; rw [if_pos a0]
    simp -dsimp [a0, e, fillS]
  have g := Good.of (marks_good a0)
  have hl := g.most; have hp := g.pos
  by_cases h1 : l.length = 1
  · have e : ratesS l = ((0, 0), (0, 0), 11) := by unfold ratesS; rw [if_neg (by simpa using a0), if_pos h1]
    simp -dsimp [a0, h1, e, fillS]
  have h1' : ¬ (l.length : Int) = 1 := by omega
  have e : ratesS l = (lowN l (l.length - 1), highN l (l.length - 1), 0) := by unfold ratesS; rw [if_neg (by simpa using a0), if_neg h1]
  simp -dsimp [a0, h1, h1']
  refine loop_dec (RI l) l.length ?_ (fun n t hI => ?_)
  · exact ⟨0, rfl, by omega, by simp -dsimp, by simp -dsimp, by simp -dsimp, by simp -dsimp, by simp -dsimp, by simp -dsimp, by simp -dsimp, by simp -dsimp, by simp -dsimp, by simp -dsimp [lowN], by simp -dsimp [highN]⟩
  · obtain ⟨j, hn, hjl, i8, i0, i2, i3, i6, i7, inx, h0, h1, h2, h3⟩ := hI
    unfold l30_0
    by_cases hj : j + 1 < l.length
    · have hj' : (j : Int) + 1 < (l.length : Int) := by omega
      have hg := get_mAt (l := l) (k := j) (by omega)
      have hg' := get_mAt (l := l) (k := j + 1) hj
      have hs := g.inc j (j + 1) (by omega) hj
      obtain ⟨⟨a1, a2⟩, ⟨a3, a4⟩, _⟩ := g.ok j (by omega)
      obtain ⟨⟨b1, b2⟩, ⟨b3, b4⟩, _⟩ := g.ok (j + 1) hj
      have hr := rtA_ok g hj
      have hlo := lowN_ok g (j - 1)
      have hhi := highN_ok g (j - 1)
      have eL : lowN l (j + 1) = if j = 0 ∨ lsB (rtA l j) (lowN l j) = true then rtA l j else lowN l j := rfl
      have eH : highN l (j + 1) = if j = 0 ∨ lsB (highN l j) (rtA l j) = true then rtA l j else highN l j := rfl
      have cL := Lowest_ok (x := ((mAt l (j + 1)).2.1 - (mAt l j).2.1).toNat) (y := ((mAt l (j + 1)).1 - (mAt l j).1).toNat) (by omega) (by omega) (by omega) (by omega)
      rw [show low2 ((mAt l (j + 1)).2.1 - (mAt l j).2.1).toNat ((mAt l (j + 1)).1 - (mAt l j).1).toNat = rtA l j from rfl, Int.toNat_of_nonneg (by omega), Int.toNat_of_nonneg (by omega)] at cL
      generalize mAt l j = x at *
      generalize mAt l (j + 1) = y at *
      have w0 : IntKind.i64.wrap (j : Int) = j := IntWalk.i64_in _ (by omega)
      have w1 : IntKind.i64.wrap (y.2.1 - x.2.1) = y.2.1 - x.2.1 := w_i64 (by omega) (by omega)
      have w2 : IntKind.i64.wrap (y.1 - x.1) = y.1 - x.1 := w_i64 (by omega) (by omega)
      have w3 : IntKind.i64.wrap ((j : Int) + 1 + 1) = (j : Int) + 1 + 1 := IntWalk.i64_in _ (by omega)
      have n0 : ¬ 0 = t.nx := by omega
      have n1 : ¬ 1 = t.nx := by omega
      have n2 : ¬ 2 = t.nx := by omega
      have n3 : ¬ 3 = t.nx := by omega
      have n2' : ¬ t.nx = 2 := by omega
      have n3' : ¬ t.nx = 3 := by omega
      have fin : ∀ t' : St, t'.t 8 = .int .i64 ((j : Int) + 1 + 1) → t'.t 0 = rM l → t'.t 2 = .pt 0 0 0 → t'.t 3 = .pt 1 0 0 → t'.t 6 = .pt 2 0 0 → t'.t 7 = .pt 3 0 0 → 4 ≤ t'.nx → t'.h 0 = some ⟨0, 0, [.int .i64 0, .int .i64 0], none⟩ → t'.h 1 = some ⟨0, 0, [.int .i64 0, .int .i64 0], none⟩ → t'.h 2 = some ⟨0, 0, [.int .i64 (lowN l (j + 1)).1, .int .i64 (lowN l (j + 1)).2], none⟩ → t'.h 3 = some ⟨0, 0, [.int .i64 (highN l (j + 1)).1, .int .i64 (highN l (j + 1)).2], none⟩ → ∃ m, m < n ∧ RI l m t' := by
        intro t' q1 q2 q3 q4 q5 q6 q7 q8 q9 q10 q11
        exact ⟨l.length - (j + 1), by omega, j + 1, rfl, by omega, by rw [q1]; simp, q2, q3, q4, q5, q6, q7, q8, q9, q10, q11⟩
      simp -dsimp [i8, i0, hj, hj', m_ia hg, m_ia1 hg', m_l0 hg, m_l1 hg, m_l0 hg', m_l1 hg', w0, w1, w2]
      refine call_pure cL (by simp) (by simp) ?_
      generalize rtA l j = r at *
      generalize hLv : lowN l j = lo at *
      generalize hHv : highN l j = hi at *
      simp -dsimp [i8, n0, n1, n2, n3]
      by_cases q : j = 0
      · have eL' : lowN l (j + 1) = r := by rw [eL, if_pos (.inl q)]
        have eH' : highN l (j + 1) = r := by rw [eH, if_pos (.inl q)]
        have q1 : ((j : Int) + 1 = 1) = True := eq_true (by omega)
        simp -dsimp [i8, q1, i6, i7, h2, h3, n2, n3, n2', n3', w3]
        exact fin _ (by simp -dsimp) (by simp -dsimp [i0]) (by simp -dsimp [i2]) (by simp -dsimp [i3]) (by simp -dsimp [i6]) (by simp -dsimp [i7]) (by simp -dsimp; omega) (by simp -dsimp [h0, n0]) (by simp -dsimp [h1, n1]) (by simp -dsimp [eL']) (by simp -dsimp [eH'])
      · have q1 : ¬ ((j : Int) + 1 = 1) := by omega
        simp -dsimp [i8, q1, i6, h2, n2, n2']
        have hlo' : ShOk lo := by rw [← hLv, show j = j - 1 + 1 by omega]; exact hlo (by omega)
        have hhi' : ShOk hi := by rw [← hHv, show j = j - 1 + 1 by omega]; exact hhi (by omega)
        refine call_pure (less_ok hr hlo') (by simp) rfl ?_
        simp -dsimp
        cases cl : lsB r lo with
        | true =>
          have eL' : lowN l (j + 1) = r := by rw [eL, if_pos (.inr cl)]
          simp -dsimp [i8, q1, i6, i7, h2, h3, n2, n3, n2', n3']
          refine call_pure (less_ok hhi' hr) (by simp) rfl ?_
          simp -dsimp
          cases ch : lsB hi r with
          | true =>
            have eH' : highN l (j + 1) = r := by rw [eH, if_pos (.inr ch)]
            simp -dsimp [i8, q1, i6, i7, h2, h3, n2, n3, n2', n3', w3]
            exact fin _ (by simp -dsimp) (by simp -dsimp [i0]) (by simp -dsimp [i2]) (by simp -dsimp [i3]) (by simp -dsimp [i6]) (by simp -dsimp [i7]) (by simp -dsimp; omega) (by simp -dsimp [h0, n0]) (by simp -dsimp [h1, n1]) (by simp -dsimp [eL']) (by simp -dsimp [eH'])
          | false =>
            have eH' : highN l (j + 1) = hi := by rw [eH, if_neg (by simp [q, ch])]
            simp -dsimp [i8, q1, i6, i7, h2, h3, n2, n3, n2', n3', w3]
            exact fin _ (by simp -dsimp) (by simp -dsimp [i0]) (by simp -dsimp [i2]) (by simp -dsimp [i3]) (by simp -dsimp [i6]) (by simp -dsimp [i7]) (by simp -dsimp; omega) (by simp -dsimp [h0, n0]) (by simp -dsimp [h1, n1]) (by simp -dsimp [eL']) (by simp -dsimp [eH', h3, n3])
        | false =>
          have eL' : lowN l (j + 1) = lo := by rw [eL, if_neg (by simp [q, cl])]
          simp -dsimp [i8, q1, i6, i7, h2, h3, n2, n3, n2', n3']
          refine call_pure (less_ok hhi' hr) (by simp) rfl ?_
          simp -dsimp
          cases ch : lsB hi r with
          | true =>
            have eH' : highN l (j + 1) = r := by rw [eH, if_pos (.inr ch)]
            simp -dsimp [i8, q1, i6, i7, h2, h3, n2, n3, n2', n3', w3]
            exact fin _ (by simp -dsimp) (by simp -dsimp [i0]) (by simp -dsimp [i2]) (by simp -dsimp [i3]) (by simp -dsimp [i6]) (by simp -dsimp [i7]) (by simp -dsimp; omega) (by simp -dsimp [h0, n0]) (by simp -dsimp [h1, n1]) (by simp -dsimp [eL', h2, n2]) (by simp -dsimp [eH'])
          | false =>
            have eH' : highN l (j + 1) = hi := by rw [eH, if_neg (by simp [q, ch])]
            simp -dsimp [i8, q1, i6, i7, h2, h3, n2, n3, n2', n3', w3]
            exact fin _ (by simp -dsimp) (by simp -dsimp [i0]) (by simp -dsimp [i2]) (by simp -dsimp [i3]) (by simp -dsimp [i6]) (by simp -dsimp [i7]) (by simp -dsimp; omega) (by simp -dsimp [h0, n0]) (by simp -dsimp [h1, n1]) (by simp -dsimp [eL', h2, n2]) (by simp -dsimp [eH', h3, n3])
    · have hjl : j = l.length - 1 := by omega
      have hj' : ¬ (j : Int) + 1 < (l.length : Int) := by omega
      rw [← hjl] at e
      simp -dsimp [i8, i0, hj, hj', i6, i7, h2, h3, i2, i3, h0, h1, e]
end Go.Proofs.P3
end
section
set_option linter.unusedVariables false
set_option linter.unusedSimpArgs false
set_option maxRecDepth 10000
set_option maxHeartbeats 8000000
namespace Go.Proofs.P3
open Go.Ex
theorem RatesR_ok (l : List Mark) : OkF Try.prog 31 [rM l] (.tup [shV (ratesS l).1, shV (ratesS l).2.1, .int .i64 (ratesS l).2.2], []) := by
  refine OkF.G0 hm h31 (of_decide_eq_true rfl) ?_
  unfold c31
  simp -dsimp
  refine call_pure (CheckMarksR_ok l) (by simp) rfl ?_
  simp -dsimp
  by_cases a0 : marksE l = 0
  rotate_left
  · have e : ratesS l = ((0, 0), (0, 0), marksE l) := by unfold ratesS; rw [if_pos a0]
    simp -dsimp [a0, e, fillS]
  have g := Good.of (marks_good a0)
  have hl := g.most; have hp := g.pos
  by_cases h1 : l.length = 1
  · have e : ratesS l = ((0, 0), (0, 0), 11) := by unfold ratesS; rw [if_neg (by simpa using a0), if_pos h1]
    simp -dsimp [a0, h1, e, fillS]
  have h1' : ¬ (l.length : Int) = 1 := by omega
  have e : ratesS l = (lowN l (l.length - 1), highN l (l.length - 1), 0) := by unfold ratesS; rw [if_neg (by simpa using a0), if_neg h1]
  simp -dsimp [a0, h1, h1']
  refine loop_dec (RI l) l.length ?_ (fun n t hI => ?_)
  · exact ⟨0, rfl, by omega, by simp -dsimp, by simp -dsimp, by simp -dsimp, by simp -dsimp, by simp -dsimp, by simp -dsimp, by simp -dsimp, by simp -dsimp, by simp -dsimp, by simp -dsimp [lowN], by simp -dsimp [highN]⟩
  · obtain ⟨j, hn, hjl, i8, i0, i2, i3, i6, i7, inx, h0, h1, h2, h3⟩ := hI
    unfold l31_0
    by_cases hj : j + 1 < l.length
    · have hj' : (j : Int) + 1 < (l.length : Int) := by omega
      have hg := get_mAt (l := l) (k := j) (by omega)
      have hg' := get_mAt (l := l) (k := j + 1) hj
      have hs := g.inc j (j + 1) (by omega) hj
      obtain ⟨⟨a1, a2⟩, ⟨a3, a4⟩, _⟩ := g.ok j (by omega)
      obtain ⟨⟨b1, b2⟩, ⟨b3, b4⟩, _⟩ := g.ok (j + 1) hj
      have hr := rtA_ok g hj
      have hlo := lowN_ok g (j - 1)
      have hhi := highN_ok g (j - 1)
      have eL : lowN l (j + 1) = if j = 0 ∨ lsB (rtA l j) (lowN l j) = true then rtA l j else lowN l j := rfl
      have eH : highN l (j + 1) = if j = 0 ∨ lsB (highN l j) (rtA l j) = true then rtA l j else highN l j := rfl
      have cL := lowestR_ok (x := ((mAt l (j + 1)).2.1 - (mAt l j).2.1).toNat) (y := ((mAt l (j + 1)).1 - (mAt l j).1).toNat) (by omega) (by omega) (by omega) (by omega)
      rw [show low2 ((mAt l (j + 1)).2.1 - (mAt l j).2.1).toNat ((mAt l (j + 1)).1 - (mAt l j).1).toNat = rtA l j from rfl, Int.toNat_of_nonneg (by omega), Int.toNat_of_nonneg (by omega)] at cL
      generalize mAt l j = x at *
      generalize mAt l (j + 1) = y at *
      have w0 : IntKind.i64.wrap (j : Int) = j := IntWalk.i64_in _ (by omega)
      have w1 : IntKind.i64.wrap (y.2.1 - x.2.1) = y.2.1 - x.2.1 := w_i64 (by omega) (by omega)
      have w2 : IntKind.i64.wrap (y.1 - x.1) = y.1 - x.1 := w_i64 (by omega) (by omega)
      have w3 : IntKind.i64.wrap ((j : Int) + 1 + 1) = (j : Int) + 1 + 1 := IntWalk.i64_in _ (by omega)
      have n0 : ¬ 0 = t.nx := by omega
      have n1 : ¬ 1 = t.nx := by omega
      have n2 : ¬ 2 = t.nx := by omega
      have n3 : ¬ 3 = t.nx := by omega
      have n2' : ¬ t.nx = 2 := by omega
      have n3' : ¬ t.nx = 3 := by omega
      have fin : ∀ t' : St, t'.t 8 = .int .i64 ((j : Int) + 1 + 1) → t'.t 0 = rM l → t'.t 2 = .pt 0 0 0 → t'.t 3 = .pt 1 0 0 → t'.t 6 = .pt 2 0 0 → t'.t 7 = .pt 3 0 0 → 4 ≤ t'.nx → t'.h 0 = some ⟨0, 0, [.int .i64 0, .int .i64 0], none⟩ → t'.h 1 = some ⟨0, 0, [.int .i64 0, .int .i64 0], none⟩ → t'.h 2 = some ⟨0, 0, [.int .i64 (lowN l (j + 1)).1, .int .i64 (lowN l (j + 1)).2], none⟩ → t'.h 3 = some ⟨0, 0, [.int .i64 (highN l (j + 1)).1, .int .i64 (highN l (j + 1)).2], none⟩ → ∃ m, m < n ∧ RI l m t' := by
        intro t' q1 q2 q3 q4 q5 q6 q7 q8 q9 q10 q11
        exact ⟨l.length - (j + 1), by omega, j + 1, rfl, by omega, by rw [q1]; simp, q2, q3, q4, q5, q6, q7, q8, q9, q10, q11⟩
      simp -dsimp [i8, i0, hj, hj', m_ia hg, m_ia1 hg', m_l0 hg, m_l1 hg, m_l0 hg', m_l1 hg', w0, w1, w2]
      refine call_pure cL (by simp) (by simp) ?_
      generalize rtA l j = r at *
      generalize hLv : lowN l j = lo at *
      generalize hHv : highN l j = hi at *
      simp -dsimp [i8, n0, n1, n2, n3]
      by_cases q : j = 0
      · have eL' : lowN l (j + 1) = r := by rw [eL, if_pos (.inl q)]
        have eH' : highN l (j + 1) = r := by rw [eH, if_pos (.inl q)]
        have q1 : ((j : Int) + 1 = 1) = True := eq_true (by omega)
        simp -dsimp [i8, q1, i6, i7, h2, h3, n2, n3, n2', n3', w3]
        exact fin _ (by simp -dsimp) (by simp -dsimp [i0]) (by simp -dsimp [i2]) (by simp -dsimp [i3]) (by simp -dsimp [i6]) (by simp -dsimp [i7]) (by simp -dsimp; omega) (by simp -dsimp [h0, n0]) (by simp -dsimp [h1, n1]) (by simp -dsimp [eL']) (by simp -dsimp [eH'])
      · have q1 : ¬ ((j : Int) + 1 = 1) := by omega
        simp -dsimp [i8, q1, i6, h2, n2, n2']
        have hlo' : ShOk lo := by rw [← hLv, show j = j - 1 + 1 by omega]; exact hlo (by omega)
        have hhi' : ShOk hi := by rw [← hHv, show j = j - 1 + 1 by omega]; exact hhi (by omega)
        refine call_pure (lessShare_ok hr hlo') (by simp) rfl ?_
        simp -dsimp
        cases cl : lsB r lo with
        | true =>
          have eL' : lowN l (j + 1) = r := by rw [eL, if_pos (.inr cl)]
          simp -dsimp [i8, q1, i6, i7, h2, h3, n2, n3, n2', n3']
          refine call_pure (lessShare_ok hhi' hr) (by simp) rfl ?_
          simp -dsimp
          cases ch : lsB hi r with
          | true =>
            have eH' : highN l (j + 1) = r := by rw [eH, if_pos (.inr ch)]
            simp -dsimp [i8, q1, i6, i7, h2, h3, n2, n3, n2', n3', w3]
            exact fin _ (by simp -dsimp) (by simp -dsimp [i0]) (by simp -dsimp [i2]) (by simp -dsimp [i3]) (by simp -dsimp [i6]) (by simp -dsimp [i7]) (by simp -dsimp; omega) (by simp -dsimp [h0, n0]) (by simp -dsimp [h1, n1]) (by simp -dsimp [eL']) (by simp -dsimp [eH'])
          | false =>
            have eH' : highN l (j + 1) = hi := by rw [eH, if_neg (by simp [q, ch])]
            simp -dsimp [i8, q1, i6, i7, h2, h3, n2, n3, n2', n3', w3]
            exact fin _ (by simp -dsimp) (by simp -dsimp [i0]) (by simp -dsimp [i2]) (by simp -dsimp [i3]) (by simp -dsimp [i6]) (by simp -dsimp [i7]) (by simp -dsimp; omega) (by simp -dsimp [h0, n0]) (by simp -dsimp [h1, n1]) (by simp -dsimp [eL']) (by simp -dsimp [eH', h3, n3])
        | false =>
          have eL' : lowN l (j + 1) = lo := by rw [eL, if_neg (by simp [q, cl])]
          simp -dsimp [i8, q1, i6, i7, h2, h3, n2, n3, n2', n3']
          refine call_pure (lessShare_ok hhi' hr) (by simp) rfl ?_
          simp -dsimp
          cases ch : lsB hi r with
          | true =>
            have eH' : highN l (j + 1) = r := by rw [eH, if_pos (.inr ch)]
            simp -dsimp [i8, q1, i6, i7, h2, h3, n2, n3, n2', n3', w3]
            exact fin _ (by simp -dsimp) (by simp -dsimp [i0]) (by simp -dsimp [i2]) (by simp -dsimp [i3]) (by simp -dsimp [i6]) (by simp -dsimp [i7]) (by simp -dsimp; omega) (by simp -dsimp [h0, n0]) (by simp -dsimp [h1, n1]) (by simp -dsimp [eL', h2, n2]) (by simp -dsimp [eH'])
          | false =>
            have eH' : highN l (j + 1) = hi := by rw [eH, if_neg (by simp [q, ch])]
            simp -dsimp [i8, q1, i6, i7, h2, h3, n2, n3, n2', n3', w3]
            exact fin _ (by simp -dsimp) (by simp -dsimp [i0]) (by simp -dsimp [i2]) (by simp -dsimp [i3]) (by simp -dsimp [i6]) (by simp -dsimp [i7]) (by simp -dsimp; omega) (by simp -dsimp [h0, n0]) (by simp -dsimp [h1, n1]) (by simp -dsimp [eL', h2, n2]) (by simp -dsimp [eH', h3, n3])
    · have hjl : j = l.length - 1 := by omega
      have hj' : ¬ (j : Int) + 1 < (l.length : Int) := by omega
      rw [← hjl] at e
      simp -dsimp [i8, i0, hj, hj', i6, i7, h2, h3, i2, i3, h0, h1, e]
theorem MarksMatchSpec (l : List Mark) (tick time : Int) : OkF Try.prog 5 [rM l, .int .i64 tick, .int .i64 time] (.bool true, []) := by
  refine OkF.W0 hm h5 (of_decide_eq_true rfl) ?_
  unfold c5
  simp -dsimp
  refine call_pure (TimeOf_ok l tick) (by simp) (by simp) ?_
  simp -dsimp
  refine call_pure (TimeOfR_ok l tick) (by simp) (by simp) ?_
  simp -dsimp
  refine call_pure (TickOf_ok l time) (by simp) (by simp) ?_
  simp -dsimp
  refine call_pure (TickOfR_ok l time) (by simp) (by simp) ?_
  simp -dsimp
  refine call_pure (CheckMarks_ok l) (by simp) rfl ?_
  simp -dsimp
  refine call_pure (CheckMarksR_ok l) (by simp) rfl ?_
  simp -dsimp
  refine call_pure (Rates_ok l) (by simp) (by simp) ?_
  simp -dsimp
  refine call_pure (RatesR_ok l) (by simp) (by simp) ?_
  simp -dsimp [seqA, eqCells, tagOf]
  refine call_pure awake2_ok (by simp) rfl ?_
  simp -dsimp
end Go.Proofs.P3
end
