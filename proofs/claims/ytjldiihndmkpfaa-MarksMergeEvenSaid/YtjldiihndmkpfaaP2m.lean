/- A division of two words, the nearest number, marks in their order: plain. -/
import Derived.Test.YtjldiihndmkpfaaP2b
set_option linter.unusedVariables false
set_option linter.unusedSimpArgs false
set_option maxRecDepth 10000
set_option maxHeartbeats 4000000
namespace Go.Proofs.P3
open Go.Ex
theorem u64w {x : Int} (h0 : 0 ≤ x) (h1 : x < 18446744073709551616) : IntKind.u64.wrap x = x := by rw [IntKind.wrap_u64]; omega
theorem wr_u64 (n : Int) (h₀ : 0 ≤ n) (h₁ : n < 2 ^ 64) : IntKind.u64.wrap n = n := u64w h₀ (by omega)
theorem and_low {x : Int} (h0 : 0 ≤ x) (h1 : x < 18446744073709551616) : Go.bits .and .u64 x 4294967295 = x % 4294967296 := bits_mask .u64 64 (by decide) wr_u64 32 (by decide) x h0 h1
theorem mul_bound {a b n m : Int} (ha : 0 ≤ a) (ha1 : a ≤ n) (hb : 0 ≤ b) (hb1 : b ≤ m) : 0 ≤ a * b ∧ a * b ≤ n * m :=
  ⟨Int.mul_nonneg ha hb, Int.le_trans (Int.mul_le_mul_of_nonneg_right ha1 hb) (Int.mul_le_mul_of_nonneg_left hb1 (by omega))⟩
def amt (a : Int) : Int := if a < 0 then -a else a
/-- One digit of the quotient: what is asked of the guess. -/
structure Guess (u d y1 y0 q r Q : Int) : Prop where
  hy1 : 2147483648 ≤ y1 ∧ y1 < 4294967296
  hy0 : 0 ≤ y0 ∧ y0 < 4294967296
  hd : 0 ≤ d ∧ d < 4294967296
  hu : 0 ≤ u ∧ u < y1 * 4294967296 + y0
  hr : 0 ≤ r ∧ r < 4294967296
  hq : q * y1 + r = u
  hQ : 0 ≤ Q ∧ Q < 4294967296
  hQ0 : Q * (y1 * 4294967296 + y0) ≤ u * 4294967296 + d
  hQ1 : u * 4294967296 + d < Q * (y1 * 4294967296 + y0) + (y1 * 4294967296 + y0)
  hqQ : Q ≤ q
  hqB : q ≤ 4294967297
theorem Guess.big {u d y1 y0 q r Q : Int} (g : Guess u d y1 y0 q r Q) : (q ≥ 4294967296 ∨ q * y0 > 4294967296 * r + d) ↔ Q < q := by
  obtain ⟨⟨a0, a1⟩, ⟨b0, b1⟩, ⟨d0, d1⟩, ⟨u0, u1⟩, ⟨r0, r1⟩, hq, ⟨Q0, Q1⟩, hQ0, hQ1, hqQ, hqB⟩ := g
  have key : q * (y1 * 4294967296 + y0) = (u - r) * 4294967296 + q * y0 := by rw [← hq]; grind
  constructor
  · rintro (h | h)
    · omega
    · refine Int.lt_of_not_ge fun hle => ?_
      have := Int.mul_le_mul_of_nonneg_right hle (show 0 ≤ y1 * 4294967296 + y0 by omega)
      omega
  · intro h
    by_cases hb : q ≥ 4294967296
    · exact .inl hb
    · refine .inr ?_
      have := Int.mul_le_mul_of_nonneg_right (show Q + 1 ≤ q by omega) (show 0 ≤ y1 * 4294967296 + y0 by omega)
      have e : (Q + 1) * (y1 * 4294967296 + y0) = Q * (y1 * 4294967296 + y0) + (y1 * 4294967296 + y0) := by grind
      omega
theorem Guess.next {u d y1 y0 q r Q : Int} (g : Guess u d y1 y0 q r Q) (h : Q < q) (hr : r + y1 < 4294967296) : Guess u d y1 y0 (q - 1) (r + y1) Q := by
  obtain ⟨a, b, d', u', r', hq, hQ, hQ0, hQ1, hqQ, hqB⟩ := g
  exact ⟨a, b, d', u', ⟨by omega, hr⟩, by rw [← hq]; grind, hQ, hQ0, hQ1, by omega, by omega⟩
theorem Guess.last {u d y1 y0 q r Q : Int} (g : Guess u d y1 y0 q r Q) (h : Q < q) (hr : ¬ r + y1 < 4294967296) : q - 1 = Q := by
  obtain ⟨⟨a0, a1⟩, ⟨b0, b1⟩, ⟨d0, d1⟩, ⟨u0, u1⟩, ⟨r0, r1⟩, hq, ⟨Q0, Q1⟩, hQ0, hQ1, hqQ, hqB⟩ := g
  have key : (q - 1) * (y1 * 4294967296 + y0) = (u - r - y1) * 4294967296 + (q - 1) * y0 := by rw [← hq]; grind
  have b := (mul_bound (a := q - 1) (b := y0) (n := 4294967296) (m := 4294967295) (by omega) (by omega) b0 (by omega)).2
  have : ¬ Q + 1 ≤ q - 1 := fun hle => by
    have := Int.mul_le_mul_of_nonneg_right hle (show 0 ≤ y1 * 4294967296 + y0 by omega)
    have e : (Q + 1) * (y1 * 4294967296 + y0) = Q * (y1 * 4294967296 + y0) + (y1 * 4294967296 + y0) := by grind
    omega
  omega
theorem Guess.wraps {u d y1 y0 q r Q : Int} (g : Guess u d y1 y0 q r Q) (h : ¬ q ≥ 4294967296) : IntKind.u64.wrap (q * y0) = q * y0 ∧ IntKind.u64.wrap (IntKind.u64.wrap (4294967296 * r) + d) = 4294967296 * r + d := by
  obtain ⟨⟨a0, a1⟩, ⟨b0, b1⟩, ⟨d0, d1⟩, ⟨u0, u1⟩, ⟨r0, r1⟩, hq, ⟨Q0, Q1⟩, hQ0, hQ1, hqQ, hqB⟩ := g
  obtain ⟨p0, p1⟩ := mul_bound (a := q) (b := y0) (n := 4294967295) (m := 4294967295) (by omega) (by omega) b0 (by omega)
  rw [u64w p0 (by omega), u64w (x := 4294967296 * r) (by omega) (by omega), u64w (by omega) (by omega)]
  exact ⟨rfl, rfl⟩
theorem Guess.first {u d y1 y0 : Int} (hy1 : 2147483648 ≤ y1 ∧ y1 < 4294967296) (hy0 : 0 ≤ y0 ∧ y0 < 4294967296) (hd : 0 ≤ d ∧ d < 4294967296) (hu : 0 ≤ u ∧ u < y1 * 4294967296 + y0) :
    Guess u d y1 y0 (u / y1) (u % y1) ((u * 4294967296 + d) / (y1 * 4294967296 + y0)) := by
  have hpos : 0 < y1 * 4294967296 + y0 := by omega
  have e := Int.mul_ediv_add_emod (u * 4294967296 + d) (y1 * 4294967296 + y0)
  have m0 := Int.emod_nonneg (u * 4294967296 + d) (show y1 * 4294967296 + y0 ≠ 0 by omega)
  have m1 := Int.emod_lt_of_pos (u * 4294967296 + d) hpos
  rw [Int.mul_comm] at e
  have f := Int.mul_ediv_add_emod u y1
  have n0 := Int.emod_nonneg u (show y1 ≠ 0 by omega)
  have n1 := Int.emod_lt_of_pos u (show 0 < y1 by omega)
  rw [Int.mul_comm] at f
  have Q0 : 0 ≤ (u * 4294967296 + d) / (y1 * 4294967296 + y0) := Int.ediv_nonneg (by omega) (by omega)
  have q0 : 0 ≤ u / y1 := Int.ediv_nonneg (by omega) (by omega)
  generalize (u * 4294967296 + d) / (y1 * 4294967296 + y0) = Q at *
  generalize (u * 4294967296 + d) % (y1 * 4294967296 + y0) = M at *
  generalize u / y1 = q at *
  generalize u % y1 = r at *
  have hQB : Q < 4294967296 := Int.lt_of_not_ge fun h => by
    have := Int.mul_le_mul_of_nonneg_right h (show 0 ≤ y1 * 4294967296 + y0 by omega)
    omega
  refine ⟨hy1, hy0, hd, hu, ⟨n0, by omega⟩, f, ⟨Q0, hQB⟩, by omega, by omega, ?_, ?_⟩
  · refine Int.le_of_not_gt fun h => ?_
    have := Int.mul_le_mul_of_nonneg_right (show q + 1 ≤ Q by omega) (show 0 ≤ y1 * 4294967296 + y0 by omega)
    have e2 : (q + 1) * (y1 * 4294967296 + y0) = (q * y1 + y1) * 4294967296 + (q + 1) * y0 := by grind
    have := Int.mul_nonneg (show 0 ≤ q + 1 by omega) hy0.1
    omega
  · refine Int.le_of_not_gt fun h => ?_
    have := Int.mul_le_mul_of_nonneg_right (show (4294967298 : Int) ≤ q by omega) (show 0 ≤ y1 by omega)
    omega
theorem div_unique {n y q r : Int} (h : q * y + r = n) (h0 : 0 ≤ r) (h1 : r < y) : q = n / y ∧ r = n % y := by
  subst h
  have e1 : (q * y + r) / y = q := by rw [Int.add_comm, Int.add_mul_ediv_right _ _ (by omega), Int.ediv_eq_zero_of_lt h0 h1, Int.zero_add]
  have e2 : (q * y + r) % y = r := by rw [Int.add_comm, Int.add_mul_emod_self_right, Int.emod_eq_of_lt h0 h1]
  exact ⟨e1.symm, e2.symm⟩
def tabN (n : Nat) : Int := if n < 1 then 0 else if n < 2 then 1 else if n < 4 then 2 else if n < 8 then 3 else if n < 16 then 4 else if n < 32 then 5 else if n < 64 then 6 else if n < 128 then 7 else 8
set_option maxHeartbeats 4000000 in
theorem leaf {y i : Int} {n : Nat} (hn : n = 0 ∨ n = 8 ∨ n = 16 ∨ n = 24 ∨ n = 32 ∨ n = 40 ∨ n = 48 ∨ n = 56) (hi : i = y / 2 ^ n) (h1 : 1 ≤ i) (h2 : i < 256) :
    ∃ s : Nat, s ≤ 63 ∧ (64 : Int) - (n + tabN i.toNat) = s ∧ 9223372036854775808 ≤ y * 2 ^ s ∧ y * 2 ^ s < 18446744073709551616 := by
  have ht : ∃ t : Nat, tabN i.toNat = t ∧ (t = 1 ∧ 1 ≤ i ∧ i < 2 ∨ t = 2 ∧ 2 ≤ i ∧ i < 4 ∨ t = 3 ∧ 4 ≤ i ∧ i < 8 ∨ t = 4 ∧ 8 ≤ i ∧ i < 16 ∨ t = 5 ∧ 16 ≤ i ∧ i < 32 ∨ t = 6 ∧ 32 ≤ i ∧ i < 64 ∨ t = 7 ∧ 64 ≤ i ∧ i < 128 ∨ t = 8 ∧ 128 ≤ i ∧ i < 256) := by
    unfold tabN
    rw [if_neg (by omega)]
    split; · exact ⟨1, rfl, by omega⟩
    split; · exact ⟨2, rfl, by omega⟩
    split; · exact ⟨3, rfl, by omega⟩
    split; · exact ⟨4, rfl, by omega⟩
    split; · exact ⟨5, rfl, by omega⟩
    split; · exact ⟨6, rfl, by omega⟩
    split; · exact ⟨7, rfl, by omega⟩
    exact ⟨8, rfl, by omega⟩
  obtain ⟨t, ht, hc⟩ := ht
  rw [ht]
  clear ht
  refine ⟨64 - (n + t), by omega, by omega, ?_⟩
  rcases hn with rfl | rfl | rfl | rfl | rfl | rfl | rfl | rfl <;> rcases hc with ⟨rfl, a, b⟩ | ⟨rfl, a, b⟩ | ⟨rfl, a, b⟩ | ⟨rfl, a, b⟩ | ⟨rfl, a, b⟩ | ⟨rfl, a, b⟩ | ⟨rfl, a, b⟩ | ⟨rfl, a, b⟩ <;>
    simp only [Nat.reduceAdd, Nat.reduceSub, Int.reducePow, Int.pow_zero, Int.ediv_one] at hi ⊢ <;> omega
def rndUp (p d : Int) : Int := if p / d ≥ 4611686018427387903 then 4611686018427387904 else if p % d ≥ d - p % d then p / d + 1 else p / d
def rndDown (p d : Int) : Int := if p / d ≥ 4611686018427387903 then 4611686018427387904 else if p % d > d - p % d then p / d + 1 else p / d
def nearS (a b d : Int) : Int := if a < 0 then -rndDown (-a * b) d else rndUp (a * b) d
theorem rnd_facts {p d : Int} (h0 : 0 ≤ p) (hd : 0 < d) : 0 ≤ p / d ∧ 0 ≤ p % d ∧ p % d < d ∧ d * (p / d) + p % d = p :=
  ⟨Int.ediv_nonneg h0 (by omega), Int.emod_nonneg p (by omega), Int.emod_lt_of_pos p hd, Int.mul_ediv_add_emod p d⟩
theorem rnd_range {p d : Int} (h0 : 0 ≤ p) (hd : 0 < d) : (0 ≤ rndUp p d ∧ rndUp p d ≤ 4611686018427387904) ∧ (0 ≤ rndDown p d ∧ rndDown p d ≤ 4611686018427387904) := by
  obtain ⟨a, b, c, e⟩ := rnd_facts h0 hd
  unfold rndUp rndDown
  constructor <;> split <;> (try split) <;> omega
theorem rnd_mono {p q d : Int} (h0 : 0 ≤ p) (h : p ≤ q) (hd : 0 < d) : rndUp p d ≤ rndUp q d ∧ rndDown p d ≤ rndDown q d := by
  obtain ⟨a, b, c, e⟩ := rnd_facts h0 hd
  obtain ⟨a', b', c', e'⟩ := rnd_facts (show 0 ≤ q by omega) hd
  have hq : p / d ≤ q / d := Int.ediv_le_ediv hd h
  by_cases heq : p / d = q / d
  · have : p % d ≤ q % d := by rw [heq] at e; omega
    unfold rndUp rndDown
    rw [heq]
    constructor <;> split <;> (try split) <;> (try split) <;> omega
  · unfold rndUp rndDown
    constructor <;> split <;> (try split) <;> (try split) <;> (try split) <;> omega
theorem near_range {a b d : Int} (hb : 0 ≤ b) (hd : 0 < d) : -4611686018427387904 ≤ nearS a b d ∧ nearS a b d ≤ 4611686018427387904 ∧ (a < 0 → nearS a b d ≤ 0) ∧ (0 ≤ a → 0 ≤ nearS a b d) := by
  unfold nearS
  split
  · have := (rnd_range (p := -a * b) (Int.mul_nonneg (by omega) hb) hd).2
    refine ⟨by omega, by omega, fun _ => by omega, fun _ => by omega⟩
  · have := (rnd_range (p := a * b) (Int.mul_nonneg (by omega) hb) hd).1
    refine ⟨by omega, by omega, fun _ => by omega, fun _ => by omega⟩
theorem near_mono {a c b d : Int} (h : a ≤ c) (hb : 0 ≤ b) (hd : 0 < d) : nearS a b d ≤ nearS c b d := by
  have ra := near_range (a := a) hb hd
  have rc := near_range (a := c) hb hd
  by_cases ha : a < 0
  · by_cases hc : c < 0
    · unfold nearS
      rw [if_pos ha, if_pos hc]
      have := (rnd_mono (p := -c * b) (q := -a * b) (Int.mul_nonneg (by omega) hb) (Int.mul_le_mul_of_nonneg_right (by omega) hb) hd).2
      omega
    · have := ra.2.2.1 ha
      have := rc.2.2.2 (by omega)
      omega
  · unfold nearS
    rw [if_neg ha, if_neg (by omega)]
    exact (rnd_mono (Int.mul_nonneg (by omega) hb) (Int.mul_le_mul_of_nonneg_right h hb) hd).1
theorem near_zero {b d : Int} (hd : 0 < d) : nearS 0 b d = 0 := by
  unfold nearS rndUp
  rw [if_neg (by decide), Int.zero_mul, Int.zero_ediv, Int.zero_emod, if_neg (by decide), if_neg (by omega)]
theorem near_full {b d : Int} (hd : 0 < d) (hb : b ≤ 1000000000000) : nearS d b d = b := by
  unfold nearS rndUp
  rw [if_neg (by omega), Int.mul_ediv_cancel_left _ (by omega), Int.mul_emod_right, if_neg (by omega), if_neg (by omega)]
def markOk (x : Mark) : Prop := (0 ≤ x.1 ∧ x.1 ≤ 1000000000000) ∧ (0 ≤ x.2.1 ∧ x.2.1 ≤ 1000000000000) ∧ 0 ≤ x.2.2 ∧ x.2.2 ≤ 1000000000
structure Good (m : List Mark) : Prop where
  pos : 0 < m.length
  most : m.length ≤ 2000
  ok : ∀ i, i < m.length → markOk (mAt m i)
  inc : ∀ i j, i < j → j < m.length → (mAt m i).1 < (mAt m j).1 ∧ (mAt m i).2.1 < (mAt m j).2.1
theorem Good.of {m : List Mark} (h : MarksOk m) : Good m := by
  have key : ∀ (d i : Nat), i + d + 1 < m.length → (mAt m i).1 < (mAt m (i + d + 1)).1 ∧ (mAt m i).2.1 < (mAt m (i + d + 1)).2.1 := by
    intro d
    induction d with
    | zero => intro i hi; exact h.inc i _ _ (get_mAt (by omega)) (get_mAt (by omega))
    | succ d ih =>
      intro i hi
      have a := ih i (by omega)
      have b := h.inc (i + d + 1) _ _ (get_mAt (by omega)) (get_mAt (by omega))
      rw [show i + (d + 1) + 1 = i + d + 1 + 1 by omega]
      omega
  refine ⟨h.pos, h.most, fun i hi => ?_, fun i j hij hj => ?_⟩
  · have := h.ok _ (mAt_mem hi)
    exact ⟨⟨this.t0, this.t1⟩, ⟨this.m0, this.m1⟩, this.o0, this.o1⟩
  · have := key (j - i - 1) i (by omega)
    rwa [show i + (j - i - 1) + 1 = j by omega] at this
theorem Good.le {m : List Mark} (g : Good m) {i j : Nat} (h : i ≤ j) (hj : j < m.length) : (mAt m i).1 ≤ (mAt m j).1 ∧ (mAt m i).2.1 ≤ (mAt m j).2.1 := by
  rcases Nat.lt_or_eq_of_le h with h | rfl
  · have := g.inc i j h hj; omega
  · omega
/-! ### the line at a tick -/
structure IsCnt (m : List Mark) (t : Int) (n : Nat) : Prop where
  le : n ≤ m.length
  lo : ∀ i, i < n → (mAt m i).1 < t
  hi : ∀ i, n ≤ i → i < m.length → t ≤ (mAt m i).1
def cnt (m : List Mark) (t : Int) : Nat := (m.filter fun x => decide (x.1 < t)).length
theorem cnt_of : ∀ {m : List Mark} {t : Int} {n : Nat}, IsCnt m t n → cnt m t = n
  | [], t, n, h => by have := h.le; simp at this; subst this; rfl
  | x :: m, t, 0, h => by
    have h0 : t ≤ x.1 := h.hi 0 (Nat.le_refl 0) (by simp)
    have ih := cnt_of (m := m) (t := t) (n := 0) ⟨Nat.zero_le _, fun i hi => absurd hi (Nat.not_lt_zero _), fun i _ hl => h.hi (i + 1) (Nat.zero_le _) (by simpa using hl)⟩
    unfold cnt at ih ⊢
    rw [List.filter_cons_of_neg (by simp; omega)]
    exact ih
  | x :: m, t, n + 1, h => by
    have h0 : x.1 < t := h.lo 0 (Nat.succ_pos n)
    have ih := cnt_of (m := m) (t := t) (n := n) ⟨by have := h.le; simp at this; exact this, fun i hi => h.lo (i + 1) (by omega), fun i hn hl => h.hi (i + 1) (by omega) (by simpa using hl)⟩
    unfold cnt at ih ⊢
    rw [List.filter_cons_of_pos (by simpa using h0), List.length_cons, ih]
theorem cnt_is {m : List Mark} (g : Good m) (t : Int) : IsCnt m t (cnt m t) := by
  have key : ∀ k : Nat, k ≤ m.length → (∀ i, i < k → (mAt m i).1 < t) ∨ ∃ n, IsCnt m t n := by
    intro k
    induction k with
    | zero => intro _; exact .inl fun i hi => absurd hi (Nat.not_lt_zero _)
    | succ k ih =>
      intro hk
      rcases ih (by omega) with h | h
      · by_cases q : (mAt m k).1 < t
        · exact .inl fun i hi => by
            by_cases e : i = k
            · rw [e]; exact q
            · exact h i (by omega)
        · refine .inr ⟨k, by omega, h, fun i hi hl => ?_⟩
          have := (g.le (i := k) (j := i) hi hl).1
          omega
      · exact .inr h
  obtain ⟨n, hn⟩ : ∃ n, IsCnt m t n := by
    rcases key m.length (Nat.le_refl _) with h | h
    · exact ⟨m.length, Nat.le_refl _, h, fun i hi hl => by omega⟩
    · exact h
  rw [cnt_of hn]
  exact hn
structure LineOf (m : List Mark) (tick : Int) (i : Nat) : Prop where
  lt : i + 1 < m.length
  up : tick < (mAt m (i + 1)).1 ∨ i + 2 = m.length
  down : (mAt m i).1 ≤ tick ∨ i = 0
def lineS (m : List Mark) (tick : Int) : Nat := min (cnt m (tick + 1) - 1) (m.length - 2)
theorem line_is {m : List Mark} (g : Good m) (h2 : 2 ≤ m.length) (tick : Int) : LineOf m tick (lineS m tick) := by
  have hn := cnt_is g (tick + 1)
  have hm := g.most
  have hle := hn.le
  unfold lineS
  generalize cnt m (tick + 1) = n at *
  refine ⟨by omega, ?_, ?_⟩
  · by_cases c : min (n - 1) (m.length - 2) + 2 = m.length
    · exact .inr c
    · left
      have := hn.hi (min (n - 1) (m.length - 2) + 1) (by omega) (by omega)
      omega
  · by_cases c : min (n - 1) (m.length - 2) = 0
    · exact .inr c
    · left
      have := hn.lo (min (n - 1) (m.length - 2)) (by omega)
      omega
theorem LineOf.unique {m : List Mark} (g : Good m) {tick : Int} {i j : Nat} (a : LineOf m tick i) (b : LineOf m tick j) : i = j := by
  have key : ∀ i j : Nat, LineOf m tick i → LineOf m tick j → ¬ i < j := by
    intro i j a b h
    have a1 := a.lt; have a2 := a.up; have b1 := b.lt; have b3 := b.down
    have := g.le (i := i + 1) (j := j) h (by omega)
    omega
  have := key i j a b
  have := key j i b a
  omega
/-! ### the time at a tick -/
def segS (m : List Mark) (i : Nat) (tick : Int) : Int := (mAt m i).2.1 + nearS (tick - (mAt m i).1) ((mAt m (i + 1)).2.1 - (mAt m i).2.1) ((mAt m (i + 1)).1 - (mAt m i).1)
def atS (m : List Mark) (tick : Int) : Int := segS m (lineS m tick) tick
theorem seg_low {m : List Mark} (g : Good m) {i : Nat} (hi : i + 1 < m.length) {tick : Int} (h : (mAt m i).1 ≤ tick) : (mAt m i).2.1 ≤ segS m i tick := by
  have hs := g.inc i (i + 1) (by omega) hi
  have := (near_range (a := tick - (mAt m i).1) (b := (mAt m (i + 1)).2.1 - (mAt m i).2.1) (d := (mAt m (i + 1)).1 - (mAt m i).1) (by omega) (by omega)).2.2.2 (by omega)
  unfold segS
  omega
theorem seg_high {m : List Mark} (g : Good m) {i : Nat} (hi : i + 1 < m.length) {tick : Int} (h : tick ≤ (mAt m (i + 1)).1) : segS m i tick ≤ (mAt m (i + 1)).2.1 := by
  have hs := g.inc i (i + 1) (by omega) hi
  have ok := g.ok i (by omega)
  have ok' := g.ok (i + 1) hi
  have := near_mono (a := tick - (mAt m i).1) (c := (mAt m (i + 1)).1 - (mAt m i).1) (b := (mAt m (i + 1)).2.1 - (mAt m i).2.1) (d := (mAt m (i + 1)).1 - (mAt m i).1) (by omega) (by omega) (by omega)
  rw [near_full (by omega) (by have := ok.2.1; have := ok'.2.1; omega)] at this
  unfold segS
  omega
theorem seg_mono {m : List Mark} (g : Good m) {i : Nat} (hi : i + 1 < m.length) {t u : Int} (h : t ≤ u) : segS m i t ≤ segS m i u := by
  have hs := g.inc i (i + 1) (by omega) hi
  have := near_mono (a := t - (mAt m i).1) (c := u - (mAt m i).1) (b := (mAt m (i + 1)).2.1 - (mAt m i).2.1) (d := (mAt m (i + 1)).1 - (mAt m i).1) (by omega) (by omega) (by omega)
  unfold segS
  omega
theorem at_mono {m : List Mark} (g : Good m) (h2 : 2 ≤ m.length) {t u : Int} (t0 : 0 ≤ t) (u1 : u ≤ 1000000000000) (h : t ≤ u) : atS m t ≤ atS m u := by
  have a := line_is g h2 t
  have b := line_is g h2 u
  unfold atS
  generalize lineS m t = i at *
  generalize lineS m u = j at *
  have a1 := a.lt; have a2 := a.up; have a3 := a.down; have b1 := b.lt; have b2 := b.up; have b3 := b.down
  by_cases c : i = j
  · subst c
    exact seg_mono g a1 h
  · by_cases d : i < j
    · have e1 := seg_high g a1 (tick := t) (by omega)
      have e2 := seg_low g b1 (tick := u) (by omega)
      have := g.le (i := i + 1) (j := j) d (by omega)
      omega
    · have := g.le (i := j + 1) (j := i) (by omega) (by omega)
      omega
theorem at_mark {m : List Mark} (g : Good m) (h2 : 2 ≤ m.length) {k : Nat} (hk : k < m.length) : atS m (mAt m k).1 = (mAt m k).2.1 := by
  have ok := g.ok k hk
  have a := line_is g h2 (mAt m k).1
  unfold atS
  generalize lineS m (mAt m k).1 = i at *
  have a1 := a.lt; have a2 := a.up; have a3 := a.down
  have hs := g.inc i (i + 1) (by omega) a1
  by_cases c : k = i
  · subst c
    unfold segS
    rw [Int.sub_self, near_zero (by omega), Int.add_zero]
  · by_cases d : k < i
    · have := g.inc k i d (by omega); omega
    · by_cases e : k = i + 1
      · subst e
        have ok' := g.ok i (by omega)
        unfold segS
        rw [near_full (by omega) (by have := ok.2.1; have := ok'.2.1; omega)]
        omega
      · have := g.inc (i + 1) k (by omega) hk; omega
def timeS (m : List Mark) (tick : Int) : Int × Int :=
  if marksE m = 0 then (if 0 ≤ tick ∧ tick ≤ 1000000000000 then (if m.length = 1 then (0, 11) else (if 0 ≤ atS m tick ∧ atS m tick ≤ 1000000000000 then (atS m tick, 0) else (0, 1))) else (0, 1)) else (0, marksE m)
/-- The least tick from lo on with at least the time (lo itself has less). -/
structure IsTick (m : List Mark) (time n : Int) : Prop where
  r : 0 ≤ n ∧ n ≤ 1000000000000
  hi : time ≤ atS m n
  lo : ∀ t, 0 ≤ t → t < n → atS m t < time
theorem IsTick.unique {m : List Mark} {time n k : Int} (a : IsTick m time n) (b : IsTick m time k) : n = k := by
  have a0 := a.r; have b0 := b.r; have a1 := a.hi; have b1 := b.hi
  by_cases h : n < k
  · have := b.lo n a0.1 h; omega
  · by_cases h2 : k < n
    · have := a.lo k b0.1 h2; omega
    · omega
/-! ### the reference's nearest number -/
def divR (p d : Int) : Int × Int := if 4611686018427387904 ≤ p / d then (4611686018427387904, 0) else (p / d, p % d)
def nearR (a b d : Int) : Int := if a < 0 then -(if d < 2 * (divR (-a * b) d).2 then (divR (-a * b) d).1 + 1 else (divR (-a * b) d).1) else if d ≤ 2 * (divR (a * b) d).2 then (divR (a * b) d).1 + 1 else (divR (a * b) d).1
/-- The same, or both beyond all. -/
def Sim (x y : Int) : Prop := x = y ∨ 4611686018427387903 ≤ x ∧ 4611686018427387903 ≤ y ∨ x ≤ -4611686018427387903 ∧ y ≤ -4611686018427387903
theorem near_sim {a b d : Int} (hd : 0 < d) : Sim (nearR a b d) (nearS a b d) := by
  unfold nearR nearS rndUp rndDown divR Sim
  by_cases ha : a < 0
  · simp only [if_pos ha]
    generalize -a * b / d = q
    generalize -a * b % d = r
    by_cases h1 : 4611686018427387904 ≤ q
    · simp only [if_pos h1, if_pos (show q ≥ 4611686018427387903 by omega)]
      split <;> omega
    · simp only [if_neg h1]
      split <;> split <;> (try split) <;> omega
  · simp only [if_neg ha]
    generalize a * b / d = q
    generalize a * b % d = r
    by_cases h1 : 4611686018427387904 ≤ q
    · simp only [if_pos h1, if_pos (show q ≥ 4611686018427387903 by omega)]
      split <;> omega
    · simp only [if_neg h1]
      split <;> split <;> (try split) <;> omega
theorem near_rng {a b d : Int} (hb : 0 ≤ b) (hd : 0 < d) : -4611686018427387904 ≤ nearR a b d ∧ nearR a b d ≤ 4611686018427387904 := by
  have e : ∀ p : Int, 0 ≤ p → 0 ≤ p / d := fun p h => Int.ediv_nonneg h (by omega)
  unfold nearR divR
  by_cases ha : a < 0
  · simp only [if_pos ha]
    have := e (-a * b) (Int.mul_nonneg (by omega) hb)
    generalize -a * b / d = q at *
    generalize -a * b % d = r
    by_cases h1 : 4611686018427387904 ≤ q
    · simp only [if_pos h1]
      split <;> omega
    · simp only [if_neg h1]
      split <;> omega
  · simp only [if_neg ha]
    have := e (a * b) (Int.mul_nonneg (by omega) hb)
    generalize a * b / d = q at *
    generalize a * b % d = r
    by_cases h1 : 4611686018427387904 ≤ q
    · simp only [if_pos h1]
      split <;> omega
    · simp only [if_neg h1]
      split <;> omega
def segR (m : List Mark) (i : Nat) (tick : Int) : Int := (mAt m i).2.1 + nearR (tick - (mAt m i).1) ((mAt m (i + 1)).2.1 - (mAt m i).2.1) ((mAt m (i + 1)).1 - (mAt m i).1)
def atR (m : List Mark) (tick : Int) : Int := segR m (lineS m tick) tick
/-- The reference's time is ours, or both are beyond all times, on the same side. -/
def Far (x y : Int) : Prop := x = y ∨ 1000000000000 < x ∧ 1000000000000 < y ∨ x < 0 ∧ y < 0
theorem at_far {m : List Mark} (g : Good m) (h2 : 2 ≤ m.length) (tick : Int) : Far (atR m tick) (atS m tick) := by
  have a := (line_is g h2 tick).lt
  unfold atR atS segR segS
  generalize lineS m tick = i at *
  have hs := g.inc i (i + 1) (by omega) a
  have ok := g.ok i (by omega)
  have := near_sim (a := tick - (mAt m i).1) (b := (mAt m (i + 1)).2.1 - (mAt m i).2.1) (d := (mAt m (i + 1)).1 - (mAt m i).1) (by omega)
  unfold Sim at this
  unfold Far
  have h1 := ok.2.1
  omega
end Go.Proofs.P3
