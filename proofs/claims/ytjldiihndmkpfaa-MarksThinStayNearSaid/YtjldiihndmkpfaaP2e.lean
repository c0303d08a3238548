/- Words of 64 bits: products, lengths, quotients. -/
import Derived.Test.YtjldiihndmkpfaaP2m
import Derived.Test.YtjldiihndmkpfaaP2E
set_option linter.unusedVariables false
set_option linter.unusedSimpArgs false
set_option maxRecDepth 10000
set_option maxHeartbeats 8000000
namespace Go.Proofs.P3
open Go.Ex
theorem LP_cut {P : Program} {C : Cmd} {Q : E → St → Prop} {s : St} (Q' : E → St → Prop) (h : LP P C Q' s ⟨⟩ ⟨⟩) (hQ : ∀ e s', Q' e s' → Q e s') : LP P C Q s ⟨⟩ ⟨⟩ := by
  obtain ⟨I, ν, h0, hr⟩ := h
  refine ⟨I, ν, h0, fun s hs => wpA_mono C (fun e s' he => ?_) (hr s hs)⟩
  cases e with
  | norm => exact he
  | exit j => exact hQ _ _ he
  | ret => exact hQ _ _ he
abbrev uV (x : Int) : V := .int .u64 x
theorem U_low {x : Int} (h0 : 0 ≤ x) (h1 : x < 18446744073709551616) : binA .and (.int .u64 x) (.int .u64 4294967295) = some (.int .u64 (x % 4294967296)) := by
  rw [i_and]
  exact congrArg (fun x => some (V.int .u64 x)) (bits_mask .u64 64 (by decide) wr_u64 32 (by decide) x h0 h1)
theorem U_shr {k : IntKind} {x : Int} (j : Nat) (hj : j ≤ 64) : binA .shr (.int .u64 x) (.int k (j : Int)) = some (.int .u64 (x / 2 ^ j)) := by
  rw [i_shr, if_neg (by omega), Int.toNat_natCast, Nat.min_eq_left (by simp only [IntKind.bits]; omega), Int.fdiv_eq_ediv_of_nonneg _ (by rw [← pow_cast]; exact Int.natCast_nonneg _)]
theorem U_shl {k : IntKind} {x : Int} (j : Nat) (hj : j ≤ 64) : binA .shl (.int .u64 x) (.int k (j : Int)) = some (.int .u64 (IntKind.u64.wrap (x * 2 ^ j))) := by
  rw [i_shl, if_neg (by omega), Int.toNat_natCast, Nat.min_eq_left (by simp only [IntKind.bits]; omega)]
theorem U_32 {k : IntKind} (x : Int) : binA .shr (.int .u64 x) (.int k 32) = some (.int .u64 (x / 4294967296)) := U_shr 32 (by decide)
theorem U_16 {k : IntKind} (x : Int) : binA .shr (.int .u64 x) (.int k 16) = some (.int .u64 (x / 65536)) := U_shr 16 (by decide)
theorem U_8 {k : IntKind} (x : Int) : binA .shr (.int .u64 x) (.int k 8) = some (.int .u64 (x / 256)) := U_shr 8 (by decide)
theorem amount_ok {a : Int} (h0 : -9223372036854775808 ≤ a) (h1 : a ≤ 9223372036854775807) : OkF Try.prog 122 [.int .i64 a] (.int .u64 (amt a), []) := by
  refine OkF.W0 hm h122 (of_decide_eq_true rfl) ?_
  unfold c122
  by_cases h : a < 0
  · have e : IntKind.u64.wrap (-(IntKind.u64.wrap a)) = -a := by simp only [IntKind.wrap_u64]; omega
    have e2 : amt a = -a := by unfold amt; rw [if_pos h]
    simp -dsimp [h, e, e2]
  · have e : IntKind.u64.wrap a = a := u64w (by omega) (by omega)
    have e2 : amt a = a := by unfold amt; rw [if_neg h]
    simp -dsimp [h, e, e2]
theorem mul_ok {x y : Int} (hx0 : 0 ≤ x) (hx1 : x < 18446744073709551616) (hy0 : 0 ≤ y) (hy1 : y < 18446744073709551616) :
    OkF Try.prog 121 [uV x, uV y] (.tup [uV (x * y / 18446744073709551616), uV (x * y % 18446744073709551616)], []) := by
  obtain ⟨p0, p1⟩ := mul_bound (a := x / 4294967296) (b := y / 4294967296) (n := 4294967295) (m := 4294967295) (by omega) (by omega) (by omega) (by omega)
  obtain ⟨q0, q1⟩ := mul_bound (a := x / 4294967296) (b := y % 4294967296) (n := 4294967295) (m := 4294967295) (by omega) (by omega) (by omega) (by omega)
  obtain ⟨r0, r1⟩ := mul_bound (a := x % 4294967296) (b := y / 4294967296) (n := 4294967295) (m := 4294967295) (by omega) (by omega) (by omega) (by omega)
  obtain ⟨s0, s1⟩ := mul_bound (a := x % 4294967296) (b := y % 4294967296) (n := 4294967295) (m := 4294967295) (by omega) (by omega) (by omega) (by omega)
  have ex : x = x / 4294967296 * 4294967296 + x % 4294967296 := by omega
  have ey : y = y / 4294967296 * 4294967296 + y % 4294967296 := by omega
  have e : x * y = x / 4294967296 * (y / 4294967296) * 18446744073709551616 + (x / 4294967296 * (y % 4294967296) + x % 4294967296 * (y / 4294967296)) * 4294967296 + x % 4294967296 * (y % 4294967296) := by
    generalize x / 4294967296 = a at *
    generalize x % 4294967296 = b at *
    generalize y / 4294967296 = c at *
    generalize y % 4294967296 = d at *
    rw [ex, ey]
    grind
  have f1 := U_low hx0 hx1
  have f2 := U_32 (k := .u64) x
  have f3 := U_low hy0 hy1
  have f4 := U_32 (k := .u64) y
  generalize x / 4294967296 = a at *
  generalize x % 4294967296 = b at *
  generalize y / 4294967296 = c at *
  generalize y % 4294967296 = d at *
  have w1 : IntKind.u64.wrap (b * d) = b * d := u64w s0 (by omega)
  have w2 : IntKind.u64.wrap (a * d) = a * d := u64w q0 (by omega)
  have w3 : IntKind.u64.wrap (b * c) = b * c := u64w r0 (by omega)
  have w4 : IntKind.u64.wrap (a * c) = a * c := u64w p0 (by omega)
  generalize hP : a * c = p at *
  generalize hQ : a * d = q at *
  generalize hR : b * c = r at *
  generalize hS : b * d = s at *
  have w5 : IntKind.u64.wrap (q + s / 4294967296) = q + s / 4294967296 := u64w (by omega) (by omega)
  have f5 := U_low (x := q + s / 4294967296) (by omega) (by omega)
  have w6 : IntKind.u64.wrap ((q + s / 4294967296) % 4294967296 + r) = (q + s / 4294967296) % 4294967296 + r := u64w (by omega) (by omega)
  have w7 : IntKind.u64.wrap (p + (q + s / 4294967296) / 4294967296) = p + (q + s / 4294967296) / 4294967296 := u64w (by omega) (by omega)
  have w8 : IntKind.u64.wrap (p + (q + s / 4294967296) / 4294967296 + ((q + s / 4294967296) % 4294967296 + r) / 4294967296) = x * y / 18446744073709551616 := by rw [u64w (by omega) (by omega)]; omega
  have w9 : IntKind.u64.wrap (x * y) = x * y % 18446744073709551616 := by rw [IntKind.wrap_u64]
  have f6 : ∀ z : Int, binA .shr (.int .u64 z) (.int .u64 32) = some (.int .u64 (z / 4294967296)) := U_32
  refine OkF.W0 hm h121 (of_decide_eq_true rfl) ?_
  unfold c121
  simp -dsimp [-i_and, -i_shr, f1, f2, f3, f4, hP, hQ, hR, hS, w1, w2, w3, w4, w5, f5, w6, w7, w8, w9, f6]
abbrev tabL : List UInt8 := [0, 1, 2, 2, 3, 3, 3, 3, 4, 4, 4, 4, 4, 4, 4, 4, 5, 5, 5, 5, 5, 5, 5, 5, 5, 5, 5, 5, 5, 5, 5, 5, 6, 6, 6, 6, 6, 6, 6, 6, 6, 6, 6, 6, 6, 6, 6, 6, 6, 6, 6, 6, 6, 6, 6, 6, 6, 6, 6, 6, 6, 6, 6, 6, 7, 7, 7, 7, 7, 7, 7, 7, 7, 7, 7, 7, 7, 7, 7, 7, 7, 7, 7, 7, 7, 7, 7, 7, 7, 7, 7, 7, 7, 7, 7, 7, 7, 7, 7, 7, 7, 7, 7, 7, 7, 7, 7, 7, 7, 7, 7, 7, 7, 7, 7, 7, 7, 7, 7, 7, 7, 7, 7, 7, 7, 7, 7, 7, 8, 8, 8, 8, 8, 8, 8, 8, 8, 8, 8, 8, 8, 8, 8, 8, 8, 8, 8, 8, 8, 8, 8, 8, 8, 8, 8, 8, 8, 8, 8, 8, 8, 8, 8, 8, 8, 8, 8, 8, 8, 8, 8, 8, 8, 8, 8, 8, 8, 8, 8, 8, 8, 8, 8, 8, 8, 8, 8, 8, 8, 8, 8, 8, 8, 8, 8, 8, 8, 8, 8, 8, 8, 8, 8, 8, 8, 8, 8, 8, 8, 8, 8, 8, 8, 8, 8, 8, 8, 8, 8, 8, 8, 8, 8, 8, 8, 8, 8, 8, 8, 8, 8, 8, 8, 8, 8, 8, 8, 8, 8, 8, 8, 8, 8, 8, 8, 8, 8, 8, 8, 8, 8, 8, 8, 8, 8, 8]
theorem tab_all : ∀ n : Fin 256, (tabL[n.val]?.map fun b => (b.toNat : Int)) = some (tabN n.val) := by decide +kernel
theorem tab_idx {i : Int} (h0 : 0 ≤ i) (h1 : i < 256) : idxA (.str tabL) (.int .u8 i) = some (.int .u8 (tabN i.toNat)) := by
  have := tab_all ⟨i.toNat, by omega⟩
  simp only at this
  simp only [idxA]
  rw [if_pos h0]
  generalize tabL = T at *
  cases hT : T[i.toNat]? with
  | none => rw [hT] at this; cases this
  | some b =>
    rw [hT] at this
    simp only [Option.map_some, Option.some.injEq] at this ⊢
    rw [this]
theorem tabN_rng (n : Nat) : 0 ≤ tabN n ∧ tabN n ≤ 8 := by unfold tabN; repeat' split <;> try omega
theorem len_ok {y : Int} (h0 : 1 ≤ y) (h1 : y < 18446744073709551616) :
    ∃ (n : Nat) (i : Int), (n = 0 ∨ n = 8 ∨ n = 16 ∨ n = 24 ∨ n = 32 ∨ n = 40 ∨ n = 48 ∨ n = 56) ∧ i = y / 2 ^ n ∧ 1 ≤ i ∧ i < 256 ∧ OkF Try.prog 152 [uV y] (.int .i64 (n + tabN i.toNat), []) := by
  have wu : ∀ i : Int, 0 ≤ i → i < 256 → IntKind.u8.wrap i = i := fun i a b => by rw [IntKind.wrap_u8]; omega
  have f32 : ∀ x : Int, binA .shr (.int .u64 x) (.int .u64 32) = some (.int .u64 (x / 4294967296)) := U_32
  have f16 : ∀ x : Int, binA .shr (.int .u64 x) (.int .u64 16) = some (.int .u64 (x / 65536)) := U_16
  have f8 : ∀ x : Int, binA .shr (.int .u64 x) (.int .u64 8) = some (.int .u64 (x / 256)) := U_8
  have fin : ∀ (n : Nat) (i : Int), n ≤ 56 → IntKind.i64.wrap ((n : Int) + IntKind.i64.wrap (tabN i.toNat)) = n + tabN i.toNat := fun n i hn => by
    have := tabN_rng i.toNat
    rw [w_i64 (n := tabN i.toNat) (by omega) (by omega), w_i64 (by omega) (by omega)]
  have main : ∀ (n : Nat) (i : Int), (n = 0 ∨ n = 8 ∨ n = 16 ∨ n = 24 ∨ n = 32 ∨ n = 40 ∨ n = 48 ∨ n = 56) → i = y / 2 ^ n → 1 ≤ i → i < 256 → ((IntKind.u8.wrap i = i → idxA (.str tabL) (.int .u8 i) = some (.int .u8 (tabN i.toNat)) → IntKind.i64.wrap ((n : Int) + IntKind.i64.wrap (tabN i.toNat)) = n + tabN i.toNat → OkF Try.prog 152 [uV y] (.int .i64 (n + tabN i.toNat), []))) →
      ∃ (n : Nat) (i : Int), (n = 0 ∨ n = 8 ∨ n = 16 ∨ n = 24 ∨ n = 32 ∨ n = 40 ∨ n = 48 ∨ n = 56) ∧ i = y / 2 ^ n ∧ 1 ≤ i ∧ i < 256 ∧ OkF Try.prog 152 [uV y] (.int .i64 (n + tabN i.toNat), []) :=
    fun n i a b c d e => ⟨n, i, a, b, c, d, e (wu i (by omega) d) (tab_idx (by omega) d) (fin n i (by omega))⟩
  delta tabL at main
  have k8 : IntKind.i64.wrap 8 = 8 := by decide
  have k16 : IntKind.i64.wrap 16 = 16 := by decide
  have k24 : IntKind.i64.wrap 24 = 24 := by decide
  have k40 : IntKind.i64.wrap 40 = 40 := by decide
  have k48 : IntKind.i64.wrap 48 = 48 := by decide
  have k56 : IntKind.i64.wrap 56 = 56 := by decide
  by_cases c1 : 4294967296 ≤ y
  · by_cases c2 : 65536 ≤ y / 4294967296
    · by_cases c3 : 256 ≤ y / 4294967296 / 65536
      · refine main 56 (y / 4294967296 / 65536 / 256) (by omega) (by simp only [Int.reducePow]; omega) (by omega) (by omega) fun g1 g2 g3 => ?_
        refine OkF.W0 hm h152 (of_decide_eq_true rfl) ?_
        unfold c152
        simp -dsimp [-idxA, -i_shr, f32, f16, f8, c1, c2, c3, g1, g2, k8, k16, k24, k40, k48, k56]
        simpa using g3
      · refine main 48 (y / 4294967296 / 65536) (by omega) (by simp only [Int.reducePow]; omega) (by omega) (by omega) fun g1 g2 g3 => ?_
        refine OkF.W0 hm h152 (of_decide_eq_true rfl) ?_
        unfold c152
        simp -dsimp [-idxA, -i_shr, f32, f16, f8, c1, c2, c3, g1, g2, k8, k16, k24, k40, k48, k56]
        simpa using g3
    · by_cases c3 : 256 ≤ y / 4294967296
      · refine main 40 (y / 4294967296 / 256) (by omega) (by simp only [Int.reducePow]; omega) (by omega) (by omega) fun g1 g2 g3 => ?_
        refine OkF.W0 hm h152 (of_decide_eq_true rfl) ?_
        unfold c152
        simp -dsimp [-idxA, -i_shr, f32, f16, f8, c1, c2, c3, g1, g2, k8, k16, k24, k40, k48, k56]
        simpa using g3
      · refine main 32 (y / 4294967296) (by omega) (by simp only [Int.reducePow]) (by omega) (by omega) fun g1 g2 g3 => ?_
        refine OkF.W0 hm h152 (of_decide_eq_true rfl) ?_
        unfold c152
        simp -dsimp [-idxA, -i_shr, f32, f16, f8, c1, c2, c3, g1, g2, k8, k16, k24, k40, k48, k56]
        simpa using g3
  · by_cases c2 : 65536 ≤ y
    · by_cases c3 : 256 ≤ y / 65536
      · refine main 24 (y / 65536 / 256) (by omega) (by simp only [Int.reducePow]; omega) (by omega) (by omega) fun g1 g2 g3 => ?_
        refine OkF.W0 hm h152 (of_decide_eq_true rfl) ?_
        unfold c152
        simp -dsimp [-idxA, -i_shr, f32, f16, f8, c1, c2, c3, g1, g2, k8, k16, k24, k40, k48, k56]
        simpa using g3
      · refine main 16 (y / 65536) (by omega) (by simp only [Int.reducePow]) (by omega) (by omega) fun g1 g2 g3 => ?_
        refine OkF.W0 hm h152 (of_decide_eq_true rfl) ?_
        unfold c152
        simp -dsimp [-idxA, -i_shr, f32, f16, f8, c1, c2, c3, g1, g2, k8, k16, k24, k40, k48, k56]
        simpa using g3
    · by_cases c3 : 256 ≤ y
      · refine main 8 (y / 256) (by omega) (by simp only [Int.reducePow]) (by omega) (by omega) fun g1 g2 g3 => ?_
        refine OkF.W0 hm h152 (of_decide_eq_true rfl) ?_
        unfold c152
        simp -dsimp [-idxA, -i_shr, f32, f16, f8, c1, c2, c3, g1, g2, k8, k16, k24, k40, k48, k56]
        simpa using g3
      · refine main 0 y (by omega) (by simp) (by omega) (by omega) fun g1 g2 g3 => ?_
        refine OkF.W0 hm h152 (of_decide_eq_true rfl) ?_
        unfold c152
        simp -dsimp [-idxA, -i_shr, f32, f16, f8, c1, c2, c3, g1, g2, k8, k16, k24, k40, k48, k56]
        simpa using g3
end Go.Proofs.P3
