/- Rates of both sides; the law of marks. -/
import Derived.Test.YtjldiihndmkpfaaP2j
import Derived.Test.YtjldiihndmkpfaaP2c
set_option linter.unusedVariables false
set_option linter.unusedSimpArgs false
set_option maxRecDepth 10000
set_option maxHeartbeats 8000000
namespace Go.Proofs.P3
open Go.Ex
theorem gcd_step (u v : Nat) : Nat.gcd v (u % v) = Nat.gcd u v := by rw [Nat.gcd_comm u v, Nat.gcd_rec v u, Nat.gcd_comm]
theorem tmod_nat (u v : Nat) : (u : Int).tmod v = ((u % v : Nat) : Int) := rfl
theorem tdiv_nat (u v : Nat) : (u : Int).tdiv v = ((u / v : Nat) : Int) := rfl
def GI (x y : Nat) (n : Nat) (t : St) : Prop := ∃ u v : Nat, n = v ∧ t.t 0 = .int .i64 u ∧ t.t 1 = .int .i64 v ∧ Nat.gcd u v = Nat.gcd x y
theorem Gcd_ok (x y : Nat) : OkF Try.prog 120 [.int .i64 x, .int .i64 y] (.int .i64 (Nat.gcd x y : Nat), []) := by
  refine OkF.W0 hm h120 (of_decide_eq_true rfl) ?_
  unfold c120
  simp -dsimp
  refine loop_dec (GI x y) y ?_ (fun n t hI => ?_)
  · exact ⟨x, y, rfl, by simp -dsimp, by simp -dsimp, rfl⟩
  · obtain ⟨u, v, hn, i0, i1, hg⟩ := hI
    unfold l120_0
    by_cases c : 0 < v
    · have c' : (0 : Int) < (v : Int) := by omega
      have c0 : ¬ (v : Int) = 0 := by omega
      have c1 : ¬ v = 0 := by omega
      have e := tmod_nat u v
      have hlt := Nat.mod_lt u c
      have hs := gcd_step u v
      generalize u % v = w at *
      simp -dsimp [i0, i1, c, c', c0, c1, e]
      exact ⟨w, by omega, v, w, rfl, by simp -dsimp, by simp -dsimp, by rw [hs, hg]⟩
    · obtain rfl : v = 0 := by omega
      have e : u = Nat.gcd x y := by rw [← hg, Nat.gcd_zero_right]
      simp -dsimp [i0, i1]
      rw [e]
abbrev shV (x : Int × Int) : V := .agg [.int .i64 x.1, .int .i64 x.2]
/-- In lowest terms. -/
def low2 (x y : Nat) : Int × Int := ((x / Nat.gcd x y : Nat), (y / Nat.gcd x y : Nat))
theorem Lowest_ok {x y : Nat} (hx : 0 < x) (hx1 : x ≤ 1000000000000) (hy : 0 < y) (hy1 : y ≤ 1000000000000) : OkF Try.prog 75 [.int .i64 x, .int .i64 y] (shV (low2 x y), []) := by
  refine OkF.G0 hm h75 (of_decide_eq_true rfl) ?_
  unfold c75 low2
  have g0 : 0 < Nat.gcd x y := Nat.gcd_pos_of_pos_left _ hx
  have a1 := Nat.div_le_self x (Nat.gcd x y)
  have a2 := Nat.div_le_self y (Nat.gcd x y)
  have cg := Gcd_ok x y
  have e1 := tdiv_nat x (Nat.gcd x y)
  have e2 := tdiv_nat y (Nat.gcd x y)
  generalize Nat.gcd x y = g at *
  generalize x / g = p at *
  generalize y / g = q at *
  have w1 : IntKind.i64.wrap (p : Int) = p := w_i64 (by omega) (by omega)
  have w2 : IntKind.i64.wrap (q : Int) = q := w_i64 (by omega) (by omega)
  have c : ¬ (x : Int) < 0 := by omega
  have gg : ¬ (g : Int) = 0 := by omega
  have gg2 : ¬ g = 0 := by omega
  simp -dsimp [c]
  refine call_pure cg (by simp) rfl ?_
  simp -dsimp [gg, gg2, e1, e2, w1, w2, fillS]
def LI (x y : Nat) (n : Nat) (t : St) : Prop := ∃ u v : Nat, n = v ∧ t.t 5 = .int .i64 u ∧ t.t 6 = .int .i64 v ∧ t.t 0 = .int .i64 x ∧ t.t 1 = .int .i64 y ∧ t.t 4 = .pt 0 0 0 ∧ t.h 0 = some ⟨0, 0, [.int .i64 0, .int .i64 0], none⟩ ∧ Nat.gcd u v = Nat.gcd x y
theorem lowestR_ok {x y : Nat} (hx : 0 < x) (hx1 : x ≤ 1000000000000) (hy : 0 < y) (hy1 : y ≤ 1000000000000) : OkF Try.prog 77 [.int .i64 x, .int .i64 y] (shV (low2 x y), []) := by
  refine OkF.G0 hm h77 (of_decide_eq_true rfl) ?_
  unfold c77 low2
  have g0 : 0 < Nat.gcd x y := Nat.gcd_pos_of_pos_left _ hx
  have a1 := Nat.div_le_self x (Nat.gcd x y)
  have a2 := Nat.div_le_self y (Nat.gcd x y)
  have e1 := tdiv_nat x (Nat.gcd x y)
  have e2 := tdiv_nat y (Nat.gcd x y)
  simp -dsimp
  refine loop_dec (LI x y) y ?_ (fun n t hI => ?_)
  · exact ⟨x, y, rfl, by simp -dsimp, by simp -dsimp, by simp -dsimp, by simp -dsimp, by simp -dsimp, by simp -dsimp, rfl⟩
  · obtain ⟨u, v, hn, i5, i6, i0, i1, i4, h0, hg⟩ := hI
    unfold l77_0
    by_cases c : v = 0
    · subst c
      have e : u = Nat.gcd x y := by rw [← hg, Nat.gcd_zero_right]
      rw [← e] at e1 e2 a1 a2 g0
      rw [← e]
      generalize x / u = p at *
      generalize y / u = q at *
      have w1 : IntKind.i64.wrap (p : Int) = p := w_i64 (by omega) (by omega)
      have w2 : IntKind.i64.wrap (q : Int) = q := w_i64 (by omega) (by omega)
      have gg : ¬ (u : Int) = 0 := by omega
      have gg2 : ¬ u = 0 := by omega
      simp -dsimp [i5, i6, i0, i1, i4, h0, gg, gg2, e1, e2, w1, w2, fillS]
    · have c0 : ¬ (v : Int) = 0 := by omega
      have e := tmod_nat u v
      have hlt := Nat.mod_lt u (show 0 < v by omega)
      have hs := gcd_step u v
      generalize u % v = w at *
      simp -dsimp [i5, i6, c, c0, e]
      exact ⟨w, by omega, v, w, rfl, by simp -dsimp, by simp -dsimp, by simp -dsimp [i0], by simp -dsimp [i1], by simp -dsimp [i4], by simp -dsimp [h0], by rw [hs, hg]⟩
def lsB (x y : Int × Int) : Bool := decide (x.1 * y.2 < y.1 * x.2)
structure ShOk (x : Int × Int) : Prop where
  n0 : 0 < x.1
  n1 : x.1 ≤ 1000000000000
  d0 : 0 < x.2
  d1 : x.2 ≤ 1000000000000
theorem low2_ok {x y : Nat} (hx : 0 < x) (hx1 : x ≤ 1000000000000) (hy : 0 < y) (hy1 : y ≤ 1000000000000) : ShOk (low2 x y) := by
  have a1 := Nat.div_le_self x (Nat.gcd x y)
  have a2 := Nat.div_le_self y (Nat.gcd x y)
  have b1 : 0 < x / Nat.gcd x y := Nat.div_pos (Nat.gcd_le_left _ hx) (Nat.gcd_pos_of_pos_left _ hx)
  have b2 : 0 < y / Nat.gcd x y := Nat.div_pos (Nat.gcd_le_right _ hy) (Nat.gcd_pos_of_pos_left _ hx)
  unfold low2
  exact ⟨by simp only; omega, by simp only; omega, by simp only; omega, by simp only; omega⟩
theorem less_ok {x y : Int × Int} (hx : ShOk x) (hy : ShOk y) : OkF Try.prog 76 [.int .i64 x.1, .int .i64 y.2, .int .i64 y.1, .int .i64 x.2] (.bool (lsB x y), []) := by
  refine OkF.W0 hm h76 (of_decide_eq_true rfl) ?_
  unfold c76 lsB
  obtain ⟨a, b⟩ := x
  obtain ⟨c, d⟩ := y
  obtain ⟨x1, x2, x3, x4⟩ := hx
  obtain ⟨y1, y2, y3, y4⟩ := hy
  simp only at *
  have am : ∀ z : Int, 0 < z → z ≤ 1000000000000 → OkF Try.prog 122 [.int .i64 z] (.int .u64 z, []) := fun z h0 h1 => by
    have := amount_ok (a := z) (by omega) (by omega)
    rwa [show amt z = z by unfold amt; rw [if_neg (by omega)]] at this
  obtain ⟨p0, p1⟩ := mul_bound (a := a) (b := d) (n := 1000000000000) (m := 1000000000000) (by omega) (by omega) (by omega) (by omega)
  obtain ⟨q0, q1⟩ := mul_bound (a := c) (b := b) (n := 1000000000000) (m := 1000000000000) (by omega) (by omega) (by omega) (by omega)
  have m1 := mul_ok (x := a) (y := d) (by omega) (by omega) (by omega) (by omega)
  have m2 := mul_ok (x := c) (y := b) (by omega) (by omega) (by omega) (by omega)
  have na : ¬ a < 0 := by omega
  have nb : ¬ b < 0 := by omega
  have nc : ¬ c < 0 := by omega
  have nd : ¬ d < 0 := by omega
  simp -dsimp [na, nb, nc, nd]
  refine call_pure (am a x1 x2) (by simp) rfl ?_
  simp -dsimp
  refine call_pure (am d y3 y4) (by simp) rfl ?_
  simp -dsimp
  refine call_pure m1 (by simp) rfl ?_
  simp -dsimp
  refine call_pure (am c y1 y2) (by simp) rfl ?_
  simp -dsimp
  refine call_pure (am b x3 x4) (by simp) rfl ?_
  simp -dsimp
  refine call_pure m2 (by simp) rfl ?_
  generalize a * d = p at *
  generalize c * b = q at *
  have e1 : p = p / 18446744073709551616 * 18446744073709551616 + p % 18446744073709551616 := by omega
  have e2 : q = q / 18446744073709551616 * 18446744073709551616 + q % 18446744073709551616 := by omega
  have r1 : 0 ≤ p % 18446744073709551616 ∧ p % 18446744073709551616 < 18446744073709551616 := by omega
  have r2 : 0 ≤ q % 18446744073709551616 ∧ q % 18446744073709551616 < 18446744073709551616 := by omega
  generalize p / 18446744073709551616 = ph at *
  generalize p % 18446744073709551616 = pl at *
  generalize q / 18446744073709551616 = qh at *
  generalize q % 18446744073709551616 = ql at *
  simp -dsimp
  repeat' (first | (refine wantT_of ?_ ?_ <;> intro z <;> simp -dsimp [z]) | (refine condK_of ?_ ?_ <;> intro z <;> simp -dsimp [z]))
  all_goals
    by_cases c1 : ph < qh
    · have e : p < q := by omega
      simp -dsimp [c1, e]
    · by_cases c2 : ph = qh
      · by_cases c3 : pl < ql
        · have e : p < q := by omega
          simp -dsimp [c1, eq_true c2, c3, e]
        · have e : ¬ p < q := by omega
          simp -dsimp [c1, eq_true c2, c3, e]
      · have e : ¬ p < q := by omega
        simp -dsimp [c1, c2, e]
theorem lessShare_ok {x y : Int × Int} (hx : ShOk x) (hy : ShOk y) : OkF Try.prog 78 [shV x, shV y] (.bool (lsB x y), []) := by
  refine OkF.W0 hm h78 (of_decide_eq_true rfl) ?_
  unfold c78 lsB
  obtain ⟨a, b⟩ := x
  obtain ⟨c, d⟩ := y
  obtain ⟨x1, x2, x3, x4⟩ := hx
  obtain ⟨y1, y2, y3, y4⟩ := hy
  simp only at *
  obtain ⟨p0, p1⟩ := mul_bound (a := a) (b := d) (n := 1000000000000) (m := 1000000000000) (by omega) (by omega) (by omega) (by omega)
  obtain ⟨q0, q1⟩ := mul_bound (a := c) (b := b) (n := 1000000000000) (m := 1000000000000) (by omega) (by omega) (by omega) (by omega)
  have m1 := mul_ok (x := a) (y := d) (by omega) (by omega) (by omega) (by omega)
  have m2 := mul_ok (x := c) (y := b) (by omega) (by omega) (by omega) (by omega)
  have wa : IntKind.u64.wrap a = a := u64w (by omega) (by omega)
  have wb : IntKind.u64.wrap b = b := u64w (by omega) (by omega)
  have wc : IntKind.u64.wrap c = c := u64w (by omega) (by omega)
  have wd : IntKind.u64.wrap d = d := u64w (by omega) (by omega)
  simp -dsimp [wa, wb, wc, wd]
  refine call_pure m1 (by simp) rfl ?_
  simp -dsimp [wa, wb, wc, wd]
  refine call_pure m2 (by simp) rfl ?_
  generalize a * d = p at *
  generalize c * b = q at *
  have e1 : p = p / 18446744073709551616 * 18446744073709551616 + p % 18446744073709551616 := by omega
  have e2 : q = q / 18446744073709551616 * 18446744073709551616 + q % 18446744073709551616 := by omega
  have r1 : 0 ≤ p % 18446744073709551616 ∧ p % 18446744073709551616 < 18446744073709551616 := by omega
  have r2 : 0 ≤ q % 18446744073709551616 ∧ q % 18446744073709551616 < 18446744073709551616 := by omega
  generalize p / 18446744073709551616 = ph at *
  generalize p % 18446744073709551616 = pl at *
  generalize q / 18446744073709551616 = qh at *
  generalize q % 18446744073709551616 = ql at *
  simp -dsimp
  by_cases c1 : ph < qh
  · have e : p < q := by omega
    simp -dsimp [c1, e]
  · by_cases c2 : ph = qh
    · by_cases c3 : pl < ql
      · have e : p < q := by omega
        simp -dsimp [c1, eq_true c2, c3, e]
      · have e : ¬ p < q := by omega
        simp -dsimp [c1, eq_true c2, c3, e]
    · have e : ¬ p < q := by omega
      simp -dsimp [c1, c2, e]
end Go.Proofs.P3
