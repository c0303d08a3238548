/- Which line is straight; fractions held against each other; plain and walked; Straight lines through marks, and the mark that is taken next: plain; The program's thinner marks; Thin of both sides; Thin of the reference; Thinner marks stay near; The law: thinner marks stay near. -/
import Derived.Test.YtjldiihndmkpfaaM1
import Derived.Test.YtjldiihndmkpfaaP2F
section
set_option linter.unusedVariables false
set_option linter.unusedSimpArgs false
set_option maxRecDepth 10000
set_option maxHeartbeats 8000000
namespace Go.Proofs.P3
open Go.Ex
structure FrOk (x : Int × Int) : Prop where
  n0 : -10000000000000 ≤ x.1
  n1 : x.1 ≤ 10000000000000
  d0 : 0 < x.2
  d1 : x.2 ≤ 1000000000000
theorem cmp_words {p q ph pl qh ql : Int} (e1 : p = ph * 18446744073709551616 + pl) (e2 : q = qh * 18446744073709551616 + ql) (r1 : 0 ≤ pl ∧ pl < 18446744073709551616) (r2 : 0 ≤ ql ∧ ql < 18446744073709551616) : p < q ↔ ph < qh ∨ ph = qh ∧ pl < ql := by omega
theorem lessF_ok {x y : Int × Int} (hx : FrOk x) (hy : FrOk y) : OkF Try.prog 76 [.int .i64 x.1, .int .i64 y.2, .int .i64 y.1, .int .i64 x.2] (.bool (lsB x y), []) := by
  refine OkF.W0 hm h76 (of_decide_eq_true rfl) ?_
  unfold c76 lsB
  obtain ⟨a, b⟩ := x
  obtain ⟨c, d⟩ := y
  obtain ⟨x1, x2, x3, x4⟩ := hx
  obtain ⟨y1, y2, y3, y4⟩ := hy
  simp only at *
  have am : ∀ z : Int, -10000000000000 ≤ z → z ≤ 10000000000000 → OkF Try.prog 122 [.int .i64 z] (.int .u64 (amt z), []) := fun z h0 h1 => amount_ok (a := z) (by omega) (by omega)
  have ab : amt b = b := by unfold amt; rw [if_neg (by omega)]
  have ad : amt d = d := by unfold amt; rw [if_neg (by omega)]
  have cb := am b (by omega) (by omega)
  have cd := am d (by omega) (by omega)
  have ca := am a x1 x2
  have cc := am c y1 y2
  rw [ab] at cb
  rw [ad] at cd
  have nb : ¬ b < 0 := by omega
  have nd : ¬ d < 0 := by omega
  have ra : 0 ≤ amt a ∧ amt a ≤ 10000000000000 := by unfold amt; split <;> omega
  have rc : 0 ≤ amt c ∧ amt c ≤ 10000000000000 := by unfold amt; split <;> omega
  obtain ⟨p0, p1⟩ := mul_bound (a := amt a) (b := d) (n := 10000000000000) (m := 1000000000000) (by omega) (by omega) (by omega) (by omega)
  obtain ⟨q0, q1⟩ := mul_bound (a := amt c) (b := b) (n := 10000000000000) (m := 1000000000000) (by omega) (by omega) (by omega) (by omega)
  have m1 := mul_ok (x := amt a) (y := d) (by omega) (by omega) (by omega) (by omega)
  have m2 := mul_ok (x := amt c) (y := b) (by omega) (by omega) (by omega) (by omega)
  have sa : a < 0 → a * d = -(amt a * d) ∧ 0 < amt a * d := fun h => by
    have e : amt a = -a := by unfold amt; rw [if_pos h]
    rw [e]
    exact ⟨by grind, Int.mul_pos (by omega) y3⟩
  have sc : c < 0 → c * b = -(amt c * b) ∧ 0 < amt c * b := fun h => by
    have e : amt c = -c := by unfold amt; rw [if_pos h]
    rw [e]
    exact ⟨by grind, Int.mul_pos (by omega) x3⟩
  have sa' : ¬ a < 0 → a * d = amt a * d := fun h => by
    have e : amt a = a := by unfold amt; rw [if_neg h]
    rw [e]
  have sc' : ¬ c < 0 → c * b = amt c * b := fun h => by
    have e : amt c = c := by unfold amt; rw [if_neg h]
    rw [e]
  generalize amt a * d = p at *
  generalize amt c * b = q at *
  have e1 : p = p / 18446744073709551616 * 18446744073709551616 + p % 18446744073709551616 := by omega
  have e2 : q = q / 18446744073709551616 * 18446744073709551616 + q % 18446744073709551616 := by omega
  have r1 : 0 ≤ p % 18446744073709551616 ∧ p % 18446744073709551616 < 18446744073709551616 := by omega
  have r2 : 0 ≤ q % 18446744073709551616 ∧ q % 18446744073709551616 < 18446744073709551616 := by omega
  have r3 : 0 ≤ p / 18446744073709551616 := by omega
  have r4 : 0 ≤ q / 18446744073709551616 := by omega
  generalize p / 18446744073709551616 = ph at *
  generalize p % 18446744073709551616 = pl at *
  generalize q / 18446744073709551616 = qh at *
  generalize q % 18446744073709551616 = ql at *
  generalize a * d = A at *
  generalize c * b = B at *
  have k1 := cmp_words e1 e2 r1 r2
  have k2 := cmp_words e2 e1 r2 r1
  by_cases ha : a < 0 <;> by_cases hc : c < 0
  all_goals
    simp -dsimp [ha, hc, nb, nd]
    refine call_pure ca (by simp) rfl ?_
    simp -dsimp
    refine call_pure cd (by simp) rfl ?_
    simp -dsimp
    refine call_pure m1 (by simp) rfl ?_
    simp -dsimp
    refine call_pure cc (by simp) rfl ?_
    simp -dsimp
    refine call_pure cb (by simp) rfl ?_
    simp -dsimp
    refine call_pure m2 (by simp) rfl ?_
    simp -dsimp
    repeat' (first | (refine wantT_of ?_ ?_ <;> intro z <;> (try rw [z]) <;> simp -dsimp <;> (first | replace z := of_decide_eq_true z | replace z := of_decide_eq_false z)) | (refine condK_of ?_ ?_ <;> intro z <;> (try rw [z]) <;> simp -dsimp <;> (first | replace z := of_decide_eq_true z | replace z := of_decide_eq_false z)))
  all_goals first | (exfalso; omega) | skip
  all_goals
    by_cases e : A < B <;> by_cases c1 : ph < qh <;> by_cases c2 : qh < ph <;> by_cases c3 : pl < ql <;> by_cases c4 : ql < pl
    all_goals first | (exfalso; omega) | skip
    all_goals first
      | (have d1 : (ph = qh) = True := eq_true (by omega); have d2 : (qh = ph) = True := eq_true (by omega); simp -dsimp [d1, d2, c1, c2, c3, c4, e]; done)
      | (have d1 : ¬ ph = qh := (by omega); have d2 : ¬ qh = ph := (by omega); simp -dsimp [d1, d2, c1, c2, c3, c4, e]; done)
      | omega
end Go.Proofs.P3
end
section
set_option linter.unusedVariables false
set_option linter.unusedSimpArgs false
set_option maxRecDepth 10000
set_option maxHeartbeats 4000000
namespace Go.Proofs.P3
open Go.Ex
theorem near_eq {a b d : Int} (ha : 0 ≤ a) (had : a ≤ d) (hb : 0 ≤ b) (hb1 : b ≤ 1000000000000) (hd : 0 < d) : nearR a b d = nearS a b d ∧ (∀ N : Int, nearS a b d ≤ N ↔ 2 * (a * b) < (2 * N + 1) * d) ∧ 0 ≤ nearS a b d ∧ nearS a b d ≤ b := by
  have hP : a * b ≤ d * b := Int.mul_le_mul_of_nonneg_right had hb
  have hP0 : 0 ≤ a * b := Int.mul_nonneg ha hb
  unfold nearR nearS rndUp divR
  simp only [if_neg (show ¬ a < 0 by omega)]
  generalize a * b = P at *
  have hq := Int.mul_ediv_add_emod P d
  have hr0 := Int.emod_nonneg P (show d ≠ 0 by omega)
  have hr1 := Int.emod_lt_of_pos P hd
  have hq0 : 0 ≤ P / d := Int.ediv_nonneg hP0 (by omega)
  generalize P / d = q at *
  generalize P % d = r at *
  have hqb : q ≤ b := by
    refine Int.le_of_not_gt fun h => ?_
    have := Int.mul_le_mul_of_nonneg_left (show b + 1 ≤ q by omega) (show 0 ≤ d by omega)
    have e : d * (b + 1) = d * b + d := by grind
    omega
  have hqb2 : d - r ≤ r → q + 1 ≤ b := fun hr => by
    refine Int.le_of_not_gt fun h => ?_
    have : q = b := by omega
    subst this
    omega
  simp only [if_neg (show ¬ 4611686018427387904 ≤ q by omega), if_neg (show ¬ q ≥ 4611686018427387903 by omega)]
  have key : ∀ N : Int, (if r ≥ d - r then q + 1 else q) ≤ N ↔ 2 * P < (2 * N + 1) * d := by
    intro N
    have e : (2 * N + 1) * d = 2 * (d * N) + d := by grind
    rw [e]
    rcases Int.lt_or_le N q with h | h
    · have := Int.mul_le_mul_of_nonneg_left (show N + 1 ≤ q by omega) (show 0 ≤ d by omega)
      have e2 : d * (N + 1) = d * N + d := by grind
      split <;> omega
    · rcases Int.lt_or_le q N with h2 | h2
      · have := Int.mul_le_mul_of_nonneg_left (show q + 1 ≤ N by omega) (show 0 ≤ d by omega)
        have e2 : d * (q + 1) = d * q + d := by grind
        split <;> omega
      · have : N = q := by omega
        subst this
        split <;> omega
  refine ⟨?_, key, ?_, ?_⟩
  · split <;> split <;> omega
  · split <;> omega
  · split
    · rename_i h; exact hqb2 (by omega)
    · exact hqb
/-- The time of the line through two marks at a tick. -/
def thr (x y : Mark) (tick : Int) : Int := x.2.1 + nearS (tick - x.1) (y.2.1 - x.2.1) (y.1 - x.1)
def okK (m : List Mark) (s : Int) (i j k : Nat) : Prop := -s ≤ thr (mAt m i) (mAt m j) (mAt m k).1 - (mAt m k).2.1 ∧ thr (mAt m i) (mAt m j) (mAt m k).1 - (mAt m k).2.1 ≤ s
def Str (m : List Mark) (s : Int) (i j : Nat) : Prop := ∀ k, i < k → k < j → okK m s i j k
def flK (m : List Mark) (s : Int) (i k : Nat) : Int × Int := (2 * ((mAt m k).2.1 - (mAt m i).2.1) - 2 * s - 1, (mAt m k).1 - (mAt m i).1)
def ceK (m : List Mark) (s : Int) (i k : Nat) : Int × Int := (2 * ((mAt m k).2.1 - (mAt m i).2.1) + 2 * s + 1, (mAt m k).1 - (mAt m i).1)
def riK (m : List Mark) (i j : Nat) : Int × Int := (2 * ((mAt m j).2.1 - (mAt m i).2.1), (mAt m j).1 - (mAt m i).1)
theorem okK_iff {m : List Mark} (g : Good m) {s : Int} {i j k : Nat} (h1 : i < k) (h2 : k < j) (hj : j < m.length) : okK m s i j k ↔ lsB (riK m i j) (flK m s i k) = false ∧ lsB (riK m i j) (ceK m s i k) = true := by
  have a := g.inc i k h1 (by omega)
  have b := g.inc k j h2 hj
  have oi := g.ok i (by omega)
  have oj := g.ok j hj
  obtain ⟨_, hN, _, _⟩ := near_eq (a := (mAt m k).1 - (mAt m i).1) (b := (mAt m j).2.1 - (mAt m i).2.1) (d := (mAt m j).1 - (mAt m i).1) (by omega) (by omega) (by omega) (by have := oi.2.1; have := oj.2.1; omega) (by omega)
  unfold okK thr lsB riK flK ceK
  simp only [decide_eq_true_eq, decide_eq_false_iff_not]
  generalize (mAt m i).2.1 = t at *
  generalize (mAt m i).1 = c at *
  have n1 := hN ((mAt m k).2.1 - t + s)
  have n2 := hN ((mAt m k).2.1 - t - s - 1)
  generalize (mAt m k).1 - c = ak at *
  generalize (mAt m j).1 - c = d at *
  generalize (mAt m j).2.1 - t = R at *
  have e1 : 2 * R * ak = 2 * (ak * R) := by grind
  have e2 : 2 * ((mAt m k).2.1 - t) + 2 * s + 1 = 2 * ((mAt m k).2.1 - t + s) + 1 := by omega
  have e3 : 2 * ((mAt m k).2.1 - t) - 2 * s - 1 = 2 * ((mAt m k).2.1 - t - s - 1) + 1 := by omega
  rw [e1, e2, e3, ← n1, ← n2]
  omega
theorem fr_trans {x f c : Int × Int} (hf : 0 < f.2) (hx : 0 < x.2) (hc : 0 < c.2) (h1 : lsB x f = true) (h2 : lsB c f = false) : lsB x c = true := by
  unfold lsB at *
  simp only [decide_eq_true_eq, decide_eq_false_iff_not, Int.not_lt] at *
  -- x.1 * f.2 < f.1 * x.2, f.1 * c.2 ≤ c.1 * f.2
  have a : x.1 * f.2 * c.2 < f.1 * x.2 * c.2 := Int.mul_lt_mul_of_pos_right h1 hc
  have b : f.1 * c.2 * x.2 ≤ c.1 * f.2 * x.2 := Int.mul_le_mul_of_nonneg_right h2 (by omega)
  have e1 : x.1 * f.2 * c.2 = f.2 * (x.1 * c.2) := by grind
  have e2 : f.1 * x.2 * c.2 = f.1 * c.2 * x.2 := by grind
  have e3 : c.1 * f.2 * x.2 = f.2 * (c.1 * x.2) := by grind
  exact Int.lt_of_mul_lt_mul_left (show f.2 * (x.1 * c.2) < f.2 * (c.1 * x.2) by omega) (by omega)
theorem fr_trans2 {x f c : Int × Int} (hf : 0 < f.2) (hx : 0 < x.2) (hc : 0 < c.2) (h1 : lsB x f = true) (h2 : lsB f c = true) : lsB x c = true := by
  refine fr_trans hf hx hc h1 ?_
  unfold lsB at *
  simp only [decide_eq_true_eq, decide_eq_false_iff_not, Int.not_lt] at *
  omega
/-- What the floor knows: below it is what is below one of its marks. -/
structure FlI (m : List Mark) (s : Int) (i j : Nat) (f : Int × Int) : Prop where
  ok : FrOk f
  iff : ∀ x : Int × Int, 0 < x.2 → (lsB x f = true ↔ ∃ k, i < k ∧ k < j ∧ lsB x (flK m s i k) = true)
structure CeI (m : List Mark) (s : Int) (i j : Nat) (c : Int × Int) : Prop where
  ok : FrOk c
  iff : ∀ x : Int × Int, 0 < x.2 → (lsB x c = true ↔ ∀ k, i < k → k < j → lsB x (ceK m s i k) = true)
theorem fr_ok {m : List Mark} (g : Good m) {s : Int} (s0 : 0 ≤ s) (s1 : s ≤ 1000000000) {i k : Nat} (h : i < k) (hk : k < m.length) : FrOk (flK m s i k) ∧ FrOk (ceK m s i k) ∧ FrOk (riK m i k) := by
  have a := g.inc i k h hk
  have oi := g.ok i (by omega)
  have ok := g.ok k hk
  obtain ⟨⟨a1, a2⟩, ⟨a3, a4⟩, _⟩ := oi
  obtain ⟨⟨b1, b2⟩, ⟨b3, b4⟩, _⟩ := ok
  unfold flK ceK riK
  refine ⟨⟨?_, ?_, ?_, ?_⟩, ⟨?_, ?_, ?_, ?_⟩, ⟨?_, ?_, ?_, ?_⟩⟩ <;> simp only <;> omega
theorem fl_first {m : List Mark} (g : Good m) {s : Int} (s0 : 0 ≤ s) (s1 : s ≤ 1000000000) {i : Nat} (hi : i + 1 < m.length) : FlI m s i (i + 1 + 1) (flK m s i (i + 1)) ∧ CeI m s i (i + 1 + 1) (ceK m s i (i + 1)) := by
  obtain ⟨h1, h2, h3⟩ := fr_ok g s0 s1 (i := i) (k := i + 1) (by omega) hi
  refine ⟨⟨h1, fun x hx => ⟨fun h => ⟨i + 1, by omega, by omega, h⟩, ?_⟩⟩, ⟨h2, fun x hx => ⟨fun h k a b => ?_, fun h => h _ (by omega) (by omega)⟩⟩⟩
  · rintro ⟨k, a, b, h⟩
    rwa [show k = i + 1 by omega] at h
  · rwa [show k = i + 1 by omega]
theorem fl_next {m : List Mark} (g : Good m) {s : Int} (s0 : 0 ≤ s) (s1 : s ≤ 1000000000) {i j : Nat} (hij : i < j) (hj : j < m.length) {f : Int × Int} (h : FlI m s i j f) : FlI m s i (j + 1) (if lsB f (flK m s i j) = true then flK m s i j else f) := by
  obtain ⟨h1, h2, h3⟩ := fr_ok g s0 s1 hij hj
  have hs : ∀ x : Int × Int, (∃ k, i < k ∧ k < j + 1 ∧ lsB x (flK m s i k) = true) ↔ (∃ k, i < k ∧ k < j ∧ lsB x (flK m s i k) = true) ∨ lsB x (flK m s i j) = true := fun x => by
    constructor
    · rintro ⟨k, a, b, c⟩
      by_cases e : k = j
      · subst e; exact .inr c
      · exact .inl ⟨k, a, by omega, c⟩
    · rintro (⟨k, a, b, c⟩ | c)
      · exact ⟨k, a, by omega, c⟩
      · exact ⟨j, hij, by omega, c⟩
  split
  · rename_i q
    refine ⟨h1, fun x hx => ?_⟩
    rw [hs, ← h.iff x hx]
    exact ⟨.inr, fun o => by rcases o with o | o; exact fr_trans2 h.ok.d0 hx h1.d0 o q; exact o⟩
  · rename_i q
    refine ⟨h.ok, fun x hx => ?_⟩
    rw [hs, ← h.iff x hx]
    refine ⟨.inl, fun o => ?_⟩
    rcases o with o | o
    · exact o
    · exact fr_trans h1.d0 hx h.ok.d0 o (by simpa using q)
theorem ce_next {m : List Mark} (g : Good m) {s : Int} (s0 : 0 ≤ s) (s1 : s ≤ 1000000000) {i j : Nat} (hij : i < j) (hj : j < m.length) {c : Int × Int} (h : CeI m s i j c) : CeI m s i (j + 1) (if lsB (ceK m s i j) c = true then ceK m s i j else c) := by
  obtain ⟨h1, h2, h3⟩ := fr_ok g s0 s1 hij hj
  have hs : ∀ x : Int × Int, (∀ k, i < k → k < j + 1 → lsB x (ceK m s i k) = true) ↔ (∀ k, i < k → k < j → lsB x (ceK m s i k) = true) ∧ lsB x (ceK m s i j) = true := fun x => by
    constructor
    · exact fun h => ⟨fun k a b => h k a (by omega), h j hij (by omega)⟩
    · rintro ⟨a, b⟩ k k1 k2
      by_cases e : k = j
      · subst e; exact b
      · exact a k k1 (by omega)
  split
  · rename_i q
    refine ⟨h2, fun x hx => ?_⟩
    rw [hs, ← h.iff x hx]
    exact ⟨fun o => ⟨fr_trans2 h2.d0 hx h.ok.d0 o q, o⟩, fun o => o.2⟩
  · rename_i q
    refine ⟨h.ok, fun x hx => ?_⟩
    rw [hs, ← h.iff x hx]
    exact ⟨fun o => ⟨o, fr_trans h.ok.d0 hx h2.d0 o (by simpa using q)⟩, fun o => o.1⟩
theorem str_iff {m : List Mark} (g : Good m) {s : Int} {i j : Nat} (hij : i < j) (hj : j < m.length) {f c : Int × Int} (hf : FlI m s i j f) (hc : CeI m s i j c) : Str m s i j ↔ lsB (riK m i j) f = false ∧ lsB (riK m i j) c = true := by
  have hd : 0 < (riK m i j).2 := by have := g.inc i j hij hj; unfold riK; simp only; omega
  rw [hc.iff _ hd, ← Bool.not_eq_true, hf.iff _ hd]
  constructor
  · intro h
    refine ⟨fun ⟨k, a, b, e⟩ => ?_, fun k a b => ((okK_iff g a b hj).1 (h k a b)).2⟩
    have := ((okK_iff g a b hj).1 (h k a b)).1
    rw [e] at this
    cases this
  · rintro ⟨h1, h2⟩ k a b
    refine (okK_iff g a b hj).2 ⟨?_, h2 k a b⟩
    cases q : lsB (riK m i j) (flK m s i k) with
    | false => rfl
    | true => exact absurd ⟨k, a, b, q⟩ h1
structure IsNx (m : List Mark) (s : Int) (i f n : Nat) : Prop where
  gt : i < f
  lt : f < n
  str : Str m s i f
  no : ∀ j, f < j → j < n → ¬ Str m s i j
theorem IsNx.unique {m : List Mark} {s : Int} {i f e n : Nat} (a : IsNx m s i f n) (b : IsNx m s i e n) : f = e := by
  rcases Nat.lt_trichotomy f e with h | h | h
  · exact absurd b.str (a.no e h b.lt)
  · exact h
  · exact absurd a.str (b.no f h a.lt)
theorem str_one (m : List Mark) (s : Int) (i : Nat) : Str m s i (i + 1) := fun k a b => by omega
theorem nx_ex (m : List Mark) (s : Int) (i : Nat) : ∀ n, i + 1 < n → ∃ f, IsNx m s i f n := by
  intro n
  induction n with
  | zero => intro h; omega
  | succ n ih =>
    intro h
    by_cases c : Str m s i n
    · by_cases e : i < n
      · exact ⟨n, e, by omega, c, fun j a b => by omega⟩
      · omega
    · by_cases e : i + 1 < n
      · obtain ⟨f, hf⟩ := ih e
        refine ⟨f, hf.gt, by have := hf.lt; omega, hf.str, fun j a b => ?_⟩
        by_cases e2 : j = n
        · subst e2; exact c
        · exact hf.no j a (by omega)
      · exact absurd (by rw [show n = i + 1 by omega]; exact str_one m s i) c
open Classical in
noncomputable def nxN (m : List Mark) (s : Int) (i : Nat) : Nat := if h : ∃ f, IsNx m s i f m.length then Classical.choose h else i + 1
theorem nxN_is {m : List Mark} {s : Int} {i : Nat} (h : i + 1 < m.length) : IsNx m s i (nxN m s i) m.length := by
  have hx := nx_ex m s i m.length h
  unfold nxN
  rw [dif_pos hx]
  exact Classical.choose_spec hx
theorem nxN_of {m : List Mark} {s : Int} {i f : Nat} (h : IsNx m s i f m.length) : nxN m s i = f := by
  have : i + 1 < m.length := by have := h.gt; have := h.lt; omega
  exact (nxN_is this).unique h
noncomputable def thinF (m : List Mark) (s : Int) : Nat → Nat → List Mark → List Mark
  | 0, _, acc => acc
  | n + 1, i, acc => if i + 1 < m.length then thinF m s n (nxN m s i) (acc ++ [mAt m (nxN m s i)]) else acc
def thinE (m : List Mark) (s : Int) : Int := if marksE m ≠ 0 then marksE m else if inB s 0 1000000000 = false then 1 else 0
noncomputable def thinS (m : List Mark) (s : Int) : List Mark × Int := if thinE m s ≠ 0 then ([], thinE m s) else (thinF m s m.length 0 [mAt m 0], 0)
end Go.Proofs.P3
end
section
set_option linter.unusedVariables false
set_option linter.unusedSimpArgs false
set_option maxRecDepth 10000
set_option maxHeartbeats 8000000
namespace Go.Proofs.P3
open Go.Ex
abbrev cel (a b : Int) (q : Bool) : Option LB := some ⟨0, 0, [.int .i64 a, .int .i64 b, .bool q], none⟩
def Cells (m : List Mark) (s : Int) (i j b : Nat) (h : Hp) : Prop := (j = i + 1 ∧ h b = cel 0 0 false ∧ h (b + 1) = cel 0 0 false) ∨ ∃ f c : Int × Int, FlI m s i j f ∧ CeI m s i j c ∧ h b = cel f.1 f.2 true ∧ h (b + 1) = cel c.1 c.2 true
structure TI0 (m : List Mark) (s : Int) (i b : Nat) (h0 : Hp) (v7 : V) (j fr : Nat) (t : St) : Prop where
  j0 : i < j
  j1 : j ≤ m.length
  f0 : i < fr
  f1 : fr < m.length
  st : Str m s i fr
  no : ∀ k, fr < k → k < j → ¬ Str m s i k
  i12 : t.t 12 = .int .i64 j
  i11 : t.t 11 = .int .i64 fr
  i0 : t.t 0 = rM m
  i1 : t.t 1 = .int .i64 s
  i7 : t.t 7 = v7
  i8 : t.t 8 = .int .i64 i
  i9 : t.t 9 = .pt b 0 0
  i10 : t.t 10 = .pt (b + 1) 0 0
  nx : t.nx = b + 2
  hh : ∀ k, k < b → t.h k = h0 k
  ce : Cells m s i j b t.h
def TI (m : List Mark) (s : Int) (i b : Nat) (h0 : Hp) (v7 : V) (n : Nat) (t : St) : Prop := ∃ j fr : Nat, n = m.length - j ∧ TI0 m s i b h0 v7 j fr t
def TO (m : List Mark) (s : Int) (i b : Nat) (h0 : Hp) (v7 : V) (e : E) (t : St) : Prop := e = .exit 2 ∧ ∃ fr : Nat, IsNx m s i fr m.length ∧ t.t 11 = .int .i64 fr ∧ t.t 0 = rM m ∧ t.t 1 = .int .i64 s ∧ t.t 7 = v7 ∧ t.t 8 = .int .i64 i ∧ t.nx = b + 2 ∧ ∀ k, k < b → t.h k = h0 k
theorem thin_in {m : List Mark} (g : Good m) {s : Int} (s0 : 0 ≤ s) (s1 : s ≤ 1000000000) {i b : Nat} {h0 : Hp} {v7 : V} {n : Nat} {t : St} (h : TI m s i b h0 v7 n t) : LP Try.prog l34_0 (TO m s i b h0 v7) t ⟨⟩ ⟨⟩ := by
  refine loop_dec (TI m s i b h0 v7) n h (fun n t hI => ?_)
  obtain ⟨j, fr, hn, k1, k2, k3, k4, k5, k6, i12, i11, i0, i1, i7, i8, i9, i10, inx, ih, hce⟩ := hI
  have hl := g.most
  have wj : IntKind.i64.wrap ((j : Int) + 1) = ((j + 1 : Nat) : Int) := by rw [IntWalk.i64_in _ (by omega)]; simp
  unfold l34_0
  by_cases hj : j < m.length
  · have hj' : (j : Int) < (m.length : Int) := by omega
    have hg := get_mAt (l := m) (k := i) (by omega)
    have hg' := get_mAt (l := m) (k := j) hj
    have hs := g.inc i j k1 hj
    obtain ⟨⟨a1, a2⟩, ⟨a3, a4⟩, _⟩ := g.ok i (by omega)
    obtain ⟨⟨b1, b2⟩, ⟨b3, b4⟩, _⟩ := g.ok j hj
    obtain ⟨o1, o2, o3⟩ := fr_ok g s0 s1 k1 hj
    have hfn : ∀ f, FlI m s i j f → FlI m s i (j + 1) (if lsB f (flK m s i j) = true then flK m s i j else f) := fun f hf => fl_next g s0 s1 k1 hj hf
    have hcn : ∀ c, CeI m s i j c → CeI m s i (j + 1) (if lsB (ceK m s i j) c = true then ceK m s i j else c) := fun c hc => ce_next g s0 s1 k1 hj hc
    have hsi : ∀ f c, FlI m s i j f → CeI m s i j c → (Str m s i j ↔ lsB (riK m i j) f = false ∧ lsB (riK m i j) c = true) := fun f c hf hc => str_iff g k1 hj hf hc
    have hff : j = i + 1 → FlI m s i (j + 1) (flK m s i j) ∧ CeI m s i (j + 1) (ceK m s i j) := fun e => by subst e; exact fl_first g s0 s1 hj
    have eF : flK m s i j = (2 * ((mAt m j).2.1 - (mAt m i).2.1) - 2 * s - 1, (mAt m j).1 - (mAt m i).1) := rfl
    have eC : ceK m s i j = (2 * ((mAt m j).2.1 - (mAt m i).2.1) + 2 * s + 1, (mAt m j).1 - (mAt m i).1) := rfl
    have eR : riK m i j = (2 * ((mAt m j).2.1 - (mAt m i).2.1), (mAt m j).1 - (mAt m i).1) := rfl
    generalize flK m s i j = F at *
    generalize ceK m s i j = C at *
    generalize riK m i j = R at *
    generalize mAt m i = x at *
    generalize mAt m j = y at *
    have w1 : IntKind.i64.wrap (y.1 - x.1) = R.2 := by rw [eR, w_i64 (by omega) (by omega)]
    have w2 : IntKind.i64.wrap (y.2.1 - x.2.1) = y.2.1 - x.2.1 := w_i64 (by omega) (by omega)
    have w3 : IntKind.i64.wrap (2 * (y.2.1 - x.2.1)) = R.1 := by rw [eR, w_i64 (by omega) (by omega)]
    have w4 : IntKind.i64.wrap (2 * s) = 2 * s := w_i64 (by omega) (by omega)
    have w5 : IntKind.i64.wrap (R.1 - 2 * s) = R.1 - 2 * s := by rw [eR]; exact w_i64 (by simp only; omega) (by simp only; omega)
    have w6 : IntKind.i64.wrap (R.1 - 2 * s - 1) = F.1 := by rw [eR, eF]; exact w_i64 (by simp only; omega) (by simp only; omega)
    have w7 : IntKind.i64.wrap (R.1 + 2 * s) = R.1 + 2 * s := by rw [eR]; exact w_i64 (by simp only; omega) (by simp only; omega)
    have w8 : IntKind.i64.wrap (R.1 + 2 * s + 1) = C.1 := by rw [eR, eC]; exact w_i64 (by simp only; omega) (by simp only; omega)
    have r2F : R.2 = F.2 := by rw [eR, eF]
    have r2C : R.2 = C.2 := by rw [eR, eC]
    clear eF eC eR
    have n01 : ¬ b = b + 1 := by omega
    have n10 : ¬ b + 1 = b := by omega
    have fin : ∀ (fr' : Nat) (t' : St), (Str m s i j ∧ fr' = j ∨ ¬ Str m s i j ∧ fr' = fr) → t'.t 12 = .int .i64 ((j + 1 : Nat) : Int) → t'.t 11 = .int .i64 fr' → t'.t 0 = rM m → t'.t 1 = .int .i64 s → t'.t 7 = v7 → t'.t 8 = .int .i64 i → t'.t 9 = .pt b 0 0 → t'.t 10 = .pt (b + 1) 0 0 → t'.nx = b + 2 → (∀ k, k < b → t'.h k = h0 k) → Cells m s i (j + 1) b t'.h → ∃ m', m' < n ∧ TI m s i b h0 v7 m' t' := by
      intro fr' t' q0 q1 q2 q3 q4 q5 q6 q7 q8 q9 q10 q11
      refine ⟨m.length - (j + 1), by omega, j + 1, fr', rfl, by omega, by omega, ?_, ?_, ?_, ?_, q1, q2, q3, q4, q5, q6, q7, q8, q9, q10, q11⟩
      · rcases q0 with ⟨_, q0⟩ | ⟨_, q0⟩ <;> omega
      · rcases q0 with ⟨_, q0⟩ | ⟨_, q0⟩ <;> omega
      · rcases q0 with ⟨q, q0⟩ | ⟨q, q0⟩
        · rw [q0]; exact q
        · rw [q0]; exact k5
      · rcases q0 with ⟨q, q0⟩ | ⟨q, q0⟩
        · exact fun k a b => by omega
        · intro k a b
          by_cases e : k = j
          · subst e; exact q
          · exact k6 k (by omega) (by omega)
    rcases hce with ⟨e1, c1, c2⟩ | ⟨f, c, hF, hC, c1, c2⟩
    · have hst : Str m s i j := by rw [e1]; exact str_one m s i
      obtain ⟨z1, z2⟩ := hff e1
      simp -dsimp [i12, i0, i8, hj, hj', m_ia hg, m_ia hg', m_l0 hg, m_l1 hg, m_l0 hg', m_l1 hg', w1, w2, w3, i9, c1, i10, c2, n01, n10, i1, w4, w5, w6, w7, w8, fillS, wj]
      refine fin j _ (.inl ⟨hst, rfl⟩) (by simp -dsimp) (by simp -dsimp) (by simp -dsimp [i0]) (by simp -dsimp [i1]) (by simp -dsimp [i7]) (by simp -dsimp [i8]) (by simp -dsimp [i9]) (by simp -dsimp [i10]) (by simp -dsimp [inx]) (fun k hk => ?_) (.inr ⟨F, C, z1, z2, ?_, ?_⟩)
      · simp -dsimp [show ¬ k = b by omega, show ¬ k = b + 1 by omega, ih k hk]
      · simp -dsimp [n01, n10, r2F]
      · simp -dsimp [n01, n10, r2C]
    · have hst := hsi f c hF hC
      have zF := hfn f hF
      have zC := hcn c hC
      have cl1 := lessF_ok o3 hF.ok
      have cl2 := lessF_ok o3 hC.ok
      have cl3 := lessF_ok hF.ok o1
      have cl4 := lessF_ok o2 hC.ok
      rw [← r2F] at cl3
      rw [← r2C] at cl4
      simp -dsimp [i12, i0, i8, hj, hj', m_ia hg, m_ia hg', m_l0 hg, m_l1 hg, m_l0 hg', m_l1 hg', w1, w2, w3, i9, c1, n01, n10]
      refine call_pure cl1 (by simp) rfl ?_
      cases q1 : lsB R f with
      | true =>
        have hns : ¬ Str m s i j := fun h => by have := (hst.1 h).1; rw [q1] at this; cases this
        simp -dsimp [i12, i0, i8, i9, c1, i10, c2, n01, n10, i1, w4, w5, w6, w7, w8, fillS, wj]
        refine call_pure cl3 (by simp) rfl ?_
        cases q3 : lsB f F
        all_goals
          rw [q3] at zF
          simp only [if_true, Bool.false_eq_true, if_false] at zF
          simp -dsimp [i12, i0, i8, i9, c1, i10, c2, n01, n10, i1, w4, w5, w6, w7, w8, fillS, wj]
          refine call_pure cl4 (by simp) rfl ?_
          cases q4 : lsB C c
          all_goals
            rw [q4] at zC
            simp only [if_true, Bool.false_eq_true, if_false] at zC
            simp -dsimp [i12, i0, i8, i9, c1, i10, c2, n01, n10, i1, w4, w5, w6, w7, w8, fillS, wj]
            refine fin fr _ (.inr ⟨hns, rfl⟩) (by simp -dsimp) (by simp -dsimp [i11]) (by simp -dsimp [i0]) (by simp -dsimp [i1]) (by simp -dsimp [i7]) (by simp -dsimp [i8]) (by simp -dsimp [i9]) (by simp -dsimp [i10]) (by simp -dsimp [inx]) (fun k hk => ?_) (.inr ⟨_, _, zF, zC, ?_, ?_⟩)
            · simp -dsimp [show ¬ k = b by omega, show ¬ k = b + 1 by omega, ih k hk]
            · simp -dsimp [n01, n10, r2F, c1]
            · simp -dsimp [n01, n10, r2C, c2]

      | false =>
        simp -dsimp [i12, i0, i8, i9, c1, i10, c2, n01, n10, i1, w4, w5, w6, w7, w8, fillS, wj]
        refine call_pure cl2 (by simp) rfl ?_
        cases q2 : lsB R c with
        | true =>
          have hys : Str m s i j := hst.2 ⟨q1, q2⟩
          simp -dsimp [i12, i0, i8, i9, c1, i10, c2, n01, n10, i1, w4, w5, w6, w7, w8, fillS, wj]
          refine call_pure cl3 (by simp) rfl ?_
          cases q3 : lsB f F
          all_goals
            rw [q3] at zF
            simp only [if_true, Bool.false_eq_true, if_false] at zF
            simp -dsimp [i12, i0, i8, i9, c1, i10, c2, n01, n10, i1, w4, w5, w6, w7, w8, fillS, wj]
            refine call_pure cl4 (by simp) rfl ?_
            cases q4 : lsB C c
            all_goals
              rw [q4] at zC
              simp only [if_true, Bool.false_eq_true, if_false] at zC
              simp -dsimp [i12, i0, i8, i9, c1, i10, c2, n01, n10, i1, w4, w5, w6, w7, w8, fillS, wj]
              refine fin j _ (.inl ⟨hys, rfl⟩) (by simp -dsimp) (by simp -dsimp [i11]) (by simp -dsimp [i0]) (by simp -dsimp [i1]) (by simp -dsimp [i7]) (by simp -dsimp [i8]) (by simp -dsimp [i9]) (by simp -dsimp [i10]) (by simp -dsimp [inx]) (fun k hk => ?_) (.inr ⟨_, _, zF, zC, ?_, ?_⟩)
              · simp -dsimp [show ¬ k = b by omega, show ¬ k = b + 1 by omega, ih k hk]
              · simp -dsimp [n01, n10, r2F, c1]
              · simp -dsimp [n01, n10, r2C, c2]

        | false =>
          have hns : ¬ Str m s i j := fun h => by have := (hst.1 h).2; rw [q2] at this; cases this
          simp -dsimp [i12, i0, i8, i9, c1, i10, c2, n01, n10, i1, w4, w5, w6, w7, w8, fillS, wj]
          refine call_pure cl3 (by simp) rfl ?_
          cases q3 : lsB f F
          all_goals
            rw [q3] at zF
            simp only [if_true, Bool.false_eq_true, if_false] at zF
            simp -dsimp [i12, i0, i8, i9, c1, i10, c2, n01, n10, i1, w4, w5, w6, w7, w8, fillS, wj]
            refine call_pure cl4 (by simp) rfl ?_
            cases q4 : lsB C c
            all_goals
              rw [q4] at zC
              simp only [if_true, Bool.false_eq_true, if_false] at zC
              simp -dsimp [i12, i0, i8, i9, c1, i10, c2, n01, n10, i1, w4, w5, w6, w7, w8, fillS, wj]
              refine fin fr _ (.inr ⟨hns, rfl⟩) (by simp -dsimp) (by simp -dsimp [i11]) (by simp -dsimp [i0]) (by simp -dsimp [i1]) (by simp -dsimp [i7]) (by simp -dsimp [i8]) (by simp -dsimp [i9]) (by simp -dsimp [i10]) (by simp -dsimp [inx]) (fun k hk => ?_) (.inr ⟨_, _, zF, zC, ?_, ?_⟩)
              · simp -dsimp [show ¬ k = b by omega, show ¬ k = b + 1 by omega, ih k hk]
              · simp -dsimp [n01, n10, r2F, c1]
              · simp -dsimp [n01, n10, r2C, c2]

  · have hjl : j = m.length := by omega
    subst hjl
    simp -dsimp [i12, i0]
    exact ⟨rfl, fr, ⟨k3, k4, k5, k6⟩, by simp -dsimp [i11], by simp -dsimp [i0], by simp -dsimp [i1], by simp -dsimp [i7], by simp -dsimp [i8], inx, ih⟩
end Go.Proofs.P3
end
section
set_option linter.unusedVariables false
set_option linter.unusedSimpArgs false
set_option maxRecDepth 10000
set_option maxHeartbeats 8000000
namespace Go.Proofs.P3
open Go.Ex
structure TA0 (m : List Mark) (s : Int) (i f : Nat) (acc : List Mark) (t : St) : Prop where
  i0 : i < m.length
  fu : m.length ≤ i + f
  len : acc.length ≤ i + 1
  eq : thinF m s f i acc = thinF m s m.length 0 [mAt m 0]
  t0 : t.t 0 = rM m
  t1 : t.t 1 = .int .i64 s
  t8 : t.t 8 = .int .i64 i
  ac : Acc markCd t.h t.nx (t.t 7) acc
def TA (m : List Mark) (s : Int) (n : Nat) (t : St) : Prop := ∃ (i f : Nat) (acc : List Mark), n = m.length - i ∧ TA0 m s i f acc t
theorem thin_step {m : List Mark} {s : Int} {i f fr : Nat} {acc : List Mark} (hi : i + 1 < m.length) (hf : IsNx m s i fr m.length) (fu : m.length ≤ i + f) (eq : thinF m s f i acc = thinF m s m.length 0 [mAt m 0]) :
    ∃ f', f = f' + 1 ∧ m.length ≤ fr + f' ∧ thinF m s f' fr (acc ++ [mAt m fr]) = thinF m s m.length 0 [mAt m 0] := by
  cases f with
  | zero => omega
  | succ f =>
    have e := nxN_of hf
    have := hf.gt
    refine ⟨f, rfl, by omega, ?_⟩
    rw [← eq]
    conv => rhs; unfold thinF
    rw [if_pos hi, e]
theorem thin_stop {m : List Mark} {s : Int} {i f : Nat} {acc : List Mark} (hi : ¬ i + 1 < m.length) : thinF m s f i acc = acc := by
  cases f with
  | zero => rfl
  | succ f => unfold thinF; rw [if_neg hi]
theorem First2_ok (a b : Int) : OkF Try.prog 65 [rI [a, b]] (.int .i64 (if a ≠ 0 then a else b), []) := by
  have hf := First_ok [a, b] (by simp)
  have : firstE [a, b] = if a ≠ 0 then a else b := by
    simp only [firstE]
    by_cases h : a = 0 <;> by_cases h2 : b = 0 <;> simp [h, h2]
  rwa [this] at hf
theorem thinE_eq (m : List Mark) (s : Int) : (if marksE m ≠ 0 then marksE m else rngE s 0 1000000000) = thinE m s := by
  unfold thinE rngE
  cases inB s 0 1000000000 <;> simp
theorem thinE_good {m : List Mark} {s : Int} (h : thinE m s = 0) : Good m ∧ 0 ≤ s ∧ s ≤ 1000000000 := by
  unfold thinE at h
  split at h
  · rename_i q; exact absurd h q
  rename_i q
  split at h
  · cases h
  rename_i q2
  simp only [Bool.not_eq_false] at q2
  simp [inB] at q2
  exact ⟨Good.of (marks_good (by simpa using q)), q2.1, q2.2⟩
theorem Thin_ok (l : List Mark) (s : Int) : OkF Try.prog 34 [rM l, .int .i64 s] (.tup [rM (thinS l s).1, .int .i64 (thinS l s).2], []) := by
  refine OkF.W0 hm h34 (of_decide_eq_true rfl) ?_
  unfold c34
  have hf := First2_ok (marksE l) (rngE s 0 1000000000)
  rw [thinE_eq] at hf
  simp -dsimp
  refine call_pure (CheckMarks_ok l) (by simp) rfl ?_
  simp -dsimp
  refine call_pure (Range_ok _ _ _) (by simp) rfl ?_
  simp -dsimp [fillA, toRO2]
  refine call_int hf ?_
  simp -dsimp
  by_cases a0 : thinE l s = 0
  rotate_left
  · have e : thinS l s = ([], thinE l s) := by unfold thinS; rw [if_pos a0]
    simp -dsimp [a0, e]
  have e : thinS l s = (thinF l s l.length 0 [mAt l 0], 0) := by unfold thinS; rw [if_neg (by simpa using a0)]
  obtain ⟨g, s0, s1⟩ := thinE_good a0
  have hl := g.most; have hp := g.pos
  have hg0 := get_mAt hp
  have hia0 : ∀ h K, iaddrK h (.ro l.length (fl markCd l)) (.int .i64 0) 3 K ⟨⟩ = K (.rp (fl markCd l) 0) [] := fun h K => by
    have := m_ia (h := h) (kk := .i64) (K := K) hg0
    simpa using this
  have hld0 : ∀ h, ldA h (.rp (fl markCd l) 0) (some 3) = some (mkV (mAt l 0)) := fun h => by
    have := m_ld (h := h) hg0
    simpa using this
  simp -dsimp [a0, hia0, hld0, fillA]
  refine loop_dec (TA l s) l.length ?_ (fun n t hI => ?_)
  · refine ⟨0, l.length, [mAt l 0], rfl, ⟨hp, by omega, by simp, rfl, by simp -dsimp, by simp -dsimp, by simp -dsimp, ?_⟩⟩
    simp -dsimp
    exact Acc.mk (l := [mAt l 0]) (by omega) (by simp [markCd, Cd.pair, fl])
  · obtain ⟨i, f, acc, hn, k0, fu, kl, keq, t0, t1, t8, hA⟩ := hI
    have w0 : IntKind.i64.wrap ((l.length : Int) - 1) = (l.length : Int) - 1 := w_i64 (by omega) (by omega)
    have w1 : IntKind.i64.wrap ((i : Int) + 1) = ((i + 1 : Nat) : Int) := by rw [IntWalk.i64_in _ (by omega)]; simp
    unfold l34_1
    by_cases hi : i + 1 < l.length
    · have hi' : (i : Int) < (l.length : Int) - 1 := by omega
      simp -dsimp [t8, t0, w0, hi', w1]
      refine LP_cut (TO l s i t.nx t.h (t.t 7)) (thin_in g s0 s1 (n := l.length - (i + 1)) ⟨i + 1, i + 1, rfl, ?_⟩) ?_
      · refine ⟨by omega, by omega, by omega, hi, str_one _ _ _, fun k a b => by omega, by simp -dsimp, by simp -dsimp, by simp -dsimp [t0], by simp -dsimp [t1], by simp -dsimp, by simp -dsimp [t8], by simp -dsimp, by simp -dsimp, by simp -dsimp, fun k hk => ?_, .inl ⟨rfl, ?_, ?_⟩⟩
        · simp -dsimp [show ¬ k = t.nx by omega, show ¬ k = t.nx + 1 by omega]
        · simp -dsimp
        · simp -dsimp
      · rintro e' t' ⟨rfl, fr, hfr, i11, i0, i1, i7, i8, inx, ih⟩
        obtain ⟨f', rfl, fu', keq'⟩ := thin_step hi hfr fu keq
        have hgt := hfr.gt; have hlt := hfr.lt
        have hgf := get_mAt hlt
        have hA' : Acc markCd t'.h t'.nx (t'.t 7) acc := by
          rw [i7]
          exact hA.mono (by omega) ih
        simp -dsimp [i11, i0, m_ia hgf, m_ld hgf, fillA]
        refine push_acc (x := mAt l fr) hA' rfl rfl (by omega) (by omega) fun v' h2 nx2 b1 b2 b3 b4 => ?_
        simp -dsimp [i11]
        exact ⟨l.length - fr, by omega, fr, f', _, rfl, ⟨hlt, fu', by simp; omega, keq', by simp -dsimp [i0], by simp -dsimp [i1], by simp -dsimp, by simpa using b1⟩⟩
    · have hi' : ¬ (i : Int) < (l.length : Int) - 1 := by omega
      have he := thin_stop (m := l) (s := s) (f := f) (acc := acc) hi
      rw [keq] at he
      rw [he] at e
      have ex := hA.ex1
      simp -dsimp [t8, t0, w0, hi', e]
      simp [ex]
end Go.Proofs.P3
end
section
set_option linter.unusedVariables false
set_option linter.unusedSimpArgs false
set_option maxRecDepth 10000
set_option maxHeartbeats 8000000
namespace Go.Proofs.P3
open Go.Ex
theorem throughG_ok {m : List Mark} (g : Good m) {i j : Nat} (hij : i < j) (hj : j < m.length) {tick : Int} (h0 : (mAt m i).1 ≤ tick) (h1 : tick ≤ (mAt m j).1) :
    OkF Try.prog 119 [mkV (mAt m i), mkV (mAt m j), .int .i64 tick] (.int .i64 (thr (mAt m i) (mAt m j) tick), []) ∧ (mAt m i).2.1 ≤ thr (mAt m i) (mAt m j) tick ∧ thr (mAt m i) (mAt m j) tick ≤ (mAt m j).2.1 := by
  have hs := g.inc i j hij hj
  obtain ⟨⟨a1, a2⟩, ⟨a3, a4⟩, _⟩ := g.ok i (by omega)
  obtain ⟨⟨b1, b2⟩, ⟨b3, b4⟩, _⟩ := g.ok j hj
  generalize mAt m i = x at *
  generalize mAt m j = y at *
  have w1 : IntKind.i64.wrap (tick - x.1) = tick - x.1 := w_i64 (by omega) (by omega)
  have w2 : IntKind.i64.wrap (y.2.1 - x.2.1) = y.2.1 - x.2.1 := w_i64 (by omega) (by omega)
  have w3 : IntKind.i64.wrap (y.1 - x.1) = y.1 - x.1 := w_i64 (by omega) (by omega)
  obtain ⟨n1, _, n2, n3⟩ := near_eq (a := tick - x.1) (b := y.2.1 - x.2.1) (d := y.1 - x.1) (by omega) (by omega) (by omega) (by omega) (by omega)
  have cn := nearestR_ok (a := tick - x.1) (b := y.2.1 - x.2.1) (d := y.1 - x.1) (by omega) (by omega) (by omega) (by omega) (by omega) (by omega)
  rw [n1] at cn
  have e : thr x y tick = x.2.1 + nearS (tick - x.1) (y.2.1 - x.2.1) (y.1 - x.1) := rfl
  refine ⟨?_, by omega, by omega⟩
  refine OkF.W0 hm h119 (of_decide_eq_true rfl) ?_
  unfold c119
  simp -dsimp [w1, w2, w3]
  refine call_pure cn (by simp) rfl ?_
  rw [e]
  generalize nearS _ _ _ = z at *
  have w4 : IntKind.i64.wrap (x.2.1 + z) = x.2.1 + z := w_i64 (by omega) (by omega)
  simp -dsimp [w4]
open Classical in
noncomputable def strB (m : List Mark) (s : Int) (i j : Nat) : Bool := decide (Str m s i j)
theorem strB_true {m : List Mark} {s : Int} {i j : Nat} (h : Str m s i j) : strB m s i j = true := by unfold strB; simp [h]
theorem strB_false {m : List Mark} {s : Int} {i j : Nat} (h : ¬ Str m s i j) : strB m s i j = false := by unfold strB; simp [h]
theorem strB_iff {m : List Mark} {s : Int} {i j : Nat} : strB m s i j = true ↔ Str m s i j := by
  by_cases h : Str m s i j
  · simp [strB_true h, h]
  · simp [strB_false h, h]
def SI2 (m : List Mark) (s : Int) (i j : Nat) (n : Nat) (t : St) : Prop := ∃ k : Nat, n = j - k ∧ i < k ∧ k ≤ j ∧ (∀ k', i < k' → k' < k → okK m s i j k') ∧ t.t 9 = .int .i64 k ∧ t.t 0 = rM m ∧ t.t 1 = .int .i64 i ∧ t.t 2 = .int .i64 j ∧ t.t 3 = .int .i64 s
theorem straight_ok {m : List Mark} (g : Good m) {s : Int} (s0 : 0 ≤ s) (s1 : s ≤ 1000000000) {i j : Nat} (hij : i < j) (hj : j < m.length) : OkF Try.prog 84 [rM m, .int .i64 i, .int .i64 j, .int .i64 s] (.bool (strB m s i j), []) := by
  refine OkF.W0 hm h84 (of_decide_eq_true rfl) ?_
  unfold c84
  have hl := g.most
  have wi : IntKind.i64.wrap ((i : Int) + 1) = ((i + 1 : Nat) : Int) := by rw [IntWalk.i64_in _ (by omega)]; simp
  simp -dsimp [wi]
  refine loop_dec (SI2 m s i j) (j - (i + 1)) ?_ (fun n t hI => ?_)
  · exact ⟨i + 1, rfl, by omega, by omega, fun k a b => by omega, by simp -dsimp, by simp -dsimp, by simp -dsimp, by simp -dsimp, by simp -dsimp⟩
  · obtain ⟨k, hn, k1, k2, k3, i9, i0, i1, i2, i3⟩ := hI
    unfold l84_0
    by_cases hk : k < j
    · have hk' : (k : Int) < (j : Int) := by omega
      have hg := get_mAt (l := m) (k := i) (by omega)
      have hgj := get_mAt (l := m) (k := j) hj
      have hgk := get_mAt (l := m) (k := k) (by omega)
      have a := g.inc i k k1 (by omega)
      have b := g.inc k j hk hj
      obtain ⟨ct, t1, t2⟩ := throughG_ok g hij hj (tick := (mAt m k).1) (by omega) (by omega)
      have hok : okK m s i j k ↔ -s ≤ thr (mAt m i) (mAt m j) (mAt m k).1 - (mAt m k).2.1 ∧ thr (mAt m i) (mAt m j) (mAt m k).1 - (mAt m k).2.1 ≤ s := Iff.rfl
      obtain ⟨⟨a1, a2⟩, ⟨a3, a4⟩, _⟩ := g.ok i (by omega)
      obtain ⟨⟨b1, b2⟩, ⟨b3, b4⟩, _⟩ := g.ok j hj
      obtain ⟨⟨c1, c2⟩, ⟨c3, c4⟩, _⟩ := g.ok k (by omega)
      have hbad : ¬ okK m s i j k → strB m s i j = false := fun h => strB_false fun q => h (q k k1 hk)
      generalize mAt m i = x at *
      generalize mAt m j = y at *
      generalize mAt m k = z at *
      generalize thr x y z.1 = T at *
      have w1 : IntKind.i64.wrap (T - z.2.1) = T - z.2.1 := w_i64 (by omega) (by omega)
      have w2 : IntKind.i64.wrap (-(T - z.2.1)) = -(T - z.2.1) := w_i64 (by omega) (by omega)
      have w3 : IntKind.i64.wrap ((k : Int) + 1) = ((k + 1 : Nat) : Int) := by rw [IntWalk.i64_in _ (by omega)]; simp
      generalize hD : T - z.2.1 = D at *
      simp -dsimp [i9, i0, i1, i2, hk, hk', m_ia hg, m_ld hg, m_ia hgj, m_ld hgj, m_ia hgk, m_l0 hgk]
      refine call_pure ct (by simp) rfl ?_
      simp -dsimp [i9, i0, i1, i2, m_ia hgk, m_l1 hgk, hD, w1, i3]
      by_cases q1 : s < D
      · have e := hbad (fun h => by have := (hok.1 h).2; omega)
        simp -dsimp [q1, e]
      · simp -dsimp [q1, w2, i3]
        by_cases q2 : s < -D
        · have e := hbad (fun h => by have := (hok.1 h).1; omega)
          simp -dsimp [q2, e]
        · have hk0 : okK m s i j k := hok.2 ⟨by omega, by omega⟩
          simp -dsimp [q2, i9, w3]
          refine ⟨j - (k + 1), by omega, k + 1, rfl, by omega, by omega, fun k' u v => ?_, by simp -dsimp, by simp -dsimp [i0], by simp -dsimp [i1], by simp -dsimp [i2], by simp -dsimp [i3]⟩
          by_cases e : k' = k
          · subst e; exact hk0
          · exact k3 k' u (by omega)
    · have e : k = j := by omega
      subst e
      have e := strB_true (m := m) (s := s) (i := i) (j := k) k3
      simp -dsimp [i9, i2, e]
structure RA0 (m : List Mark) (s : Int) (i f : Nat) (acc : List Mark) (t : St) : Prop where
  i0 : i < m.length
  fu : m.length ≤ i + f
  len : acc.length ≤ i + 1
  eq : thinF m s f i acc = thinF m s m.length 0 [mAt m 0]
  t0 : t.t 0 = rM m
  t1 : t.t 1 = .int .i64 s
  t8 : t.t 8 = .int .i64 i
  ac : Acc markCd t.h t.nx (t.t 7) acc
def RA (m : List Mark) (s : Int) (n : Nat) (t : St) : Prop := ∃ (i f : Nat) (acc : List Mark), n = m.length - i ∧ RA0 m s i f acc t
def RB (m : List Mark) (s : Int) (i : Nat) (h0 : Hp) (nx : Nat) (v7 : V) (n : Nat) (t : St) : Prop := ∃ j : Nat, n = j ∧ i < j ∧ j < m.length ∧ (∀ k, j < k → k < m.length → ¬ Str m s i k) ∧ t.t 9 = .int .i64 j ∧ t.t 0 = rM m ∧ t.t 1 = .int .i64 s ∧ t.t 8 = .int .i64 i ∧ t.t 7 = v7 ∧ t.h = h0 ∧ t.nx = nx
theorem ThinR_ok (l : List Mark) (s : Int) : OkF Try.prog 37 [rM l, .int .i64 s] (.tup [rM (thinS l s).1, .int .i64 (thinS l s).2], []) := by
  refine OkF.W0 hm h37 (of_decide_eq_true rfl) ?_
  unfold c37
  simp -dsimp
  refine call_pure (CheckMarksR_ok l) (by simp) rfl ?_
  simp -dsimp
  have bad : ∀ v, thinE l s = v → v ≠ 0 → thinS l s = ([], v) := fun v h1 h2 => by unfold thinS; rw [h1, if_pos h2]
  by_cases a0 : marksE l = 0
  rotate_left
  · have e := bad (marksE l) (by unfold thinE; rw [if_pos a0]) a0
    simp -dsimp [a0, e]
  simp -dsimp [a0]
  refine call_pure (within2_ok _ _ _) (by simp) rfl ?_
  cases a2 : inB s 0 1000000000 with
  | false =>
    have e := bad 1 (by unfold thinE; rw [if_neg (by simpa using a0), if_pos a2]) (by decide)
    simp -dsimp [e]
  | true =>
  have az : thinE l s = 0 := by unfold thinE; rw [if_neg (by simpa using a0), if_neg (by rw [a2]; decide)]
  have e : thinS l s = (thinF l s l.length 0 [mAt l 0], 0) := by unfold thinS; rw [if_neg (by simpa using az)]
  obtain ⟨g, s0, s1⟩ := thinE_good az
  have hl := g.most; have hp := g.pos
  have hg0 := get_mAt hp
  have hia0 : ∀ h K, iaddrK h (.ro l.length (fl markCd l)) (.int .i64 0) 3 K ⟨⟩ = K (.rp (fl markCd l) 0) [] := fun h K => by
    have := m_ia (h := h) (kk := .i64) (K := K) hg0
    simpa using this
  have hld0 : ∀ h, ldA h (.rp (fl markCd l) 0) (some 3) = some (mkV (mAt l 0)) := fun h => by
    have := m_ld (h := h) hg0
    simpa using this
  simp -dsimp [hia0, hld0, fillA]
  refine loop_dec (RA l s) l.length ?_ (fun n t hI => ?_)
  · refine ⟨0, l.length, [mAt l 0], rfl, ⟨hp, by omega, by simp, rfl, by simp -dsimp, by simp -dsimp, by simp -dsimp, ?_⟩⟩
    simp -dsimp
    exact Acc.mk (l := [mAt l 0]) (by omega) (by simp [markCd, Cd.pair, fl])
  · obtain ⟨i, f, acc, hn, k0, fu, kl, keq, t0, t1, t8, hA⟩ := hI
    have w0 : IntKind.i64.wrap ((l.length : Int) - 1) = ((l.length - 1 : Nat) : Int) := by rw [w_i64 (by omega) (by omega)]; omega
    unfold l37_1
    by_cases hi : i + 1 < l.length
    · have hi' : i < l.length - 1 := by omega
      simp -dsimp [t8, t0, w0, hi']
      refine loop_dec (RB l s i t.h t.nx (t.t 7)) (l.length - 1) ?_ (fun n' t' hJ => ?_)
      · exact ⟨l.length - 1, rfl, by omega, by omega, fun k a b => by omega, by simp -dsimp, by simp -dsimp [t0], by simp -dsimp [t1], by simp -dsimp [t8], by simp -dsimp, rfl, rfl⟩
      · obtain ⟨j, hn', j1, j2, j3, i9, i0, i1, i8, i7, ih, inx⟩ := hJ
        have wj : IntKind.i64.wrap ((j : Int) - 1) = ((j - 1 : Nat) : Int) := by rw [w_i64 (by omega) (by omega)]; omega
        unfold l37_0
        simp -dsimp [i9, i0, i1, i8]
        refine call_pure (straight_ok g s0 s1 j1 j2) (by simp) rfl ?_
        by_cases q : Str l s i j
        · rw [strB_true q]
          have hfr : IsNx l s i j l.length := ⟨j1, j2, q, j3⟩
          obtain ⟨f', rfl, fu', keq'⟩ := thin_step hi hfr fu keq
          have hgf := get_mAt j2
          have hA' : Acc markCd t'.h t'.nx (t'.t 7) acc := by rw [i7, ih, inx]; exact hA
          simp -dsimp [i9, i0, m_ia hgf, m_ld hgf, fillA]
          refine push_acc (x := mAt l j) hA' rfl rfl (by omega) (by omega) fun v' h2 nx2 b1 b2 b3 b4 => ?_
          simp -dsimp [i9]
          exact ⟨l.length - j, by omega, j, f', _, rfl, ⟨j2, fu', by simp; omega, keq', by simp -dsimp [i0], by simp -dsimp [i1], by simp -dsimp, by simpa using b1⟩⟩
        · rw [strB_false q]
          have hne : ¬ j = i + 1 := fun e => q (by rw [e]; exact str_one _ _ _)
          simp -dsimp [i9, wj]
          refine ⟨j - 1, by omega, j - 1, rfl, by omega, by omega, fun k a b => ?_, by simp -dsimp, by simp -dsimp [i0], by simp -dsimp [i1], by simp -dsimp [i8], by simp -dsimp [i7], ih, inx⟩
          by_cases e : k = j
          · subst e; exact q
          · exact j3 k (by omega) b
    · have hi' : ¬ i < l.length - 1 := by omega
      have he := thin_stop (m := l) (s := s) (f := f) (acc := acc) hi
      rw [keq] at he
      rw [he] at e
      have ex := hA.ex1
      simp -dsimp [t8, t0, w0, hi', e]
      simp [ex]
end Go.Proofs.P3
end
section
set_option linter.unusedVariables false
set_option linter.unusedSimpArgs false
set_option maxRecDepth 10000
set_option maxHeartbeats 8000000
namespace Go.Proofs.P3
open Go.Ex
structure Ch (m : List Mark) (s : Int) (I : List Nat) : Prop where
  h0 : I[0]? = some 0
  lt : ∀ (k a : Nat), I[k]? = some a → a < m.length
  step : ∀ (k a b : Nat), I[k]? = some a → I[k + 1]? = some b → a < b ∧ Str m s a b
theorem Ch.snoc {m : List Mark} {s : Int} {I : List Nat} {i : Nat} (h : Ch m s (I ++ [i])) {j : Nat} (hj : j < m.length) (hij : i < j) (hs : Str m s i j) : Ch m s (I ++ [i] ++ [j]) := by
  have hlen : (I ++ [i]).length = I.length + 1 := by simp
  have lo : ∀ k, k < I.length + 1 → (I ++ [i] ++ [j])[k]? = (I ++ [i])[k]? := fun k hk => List.getElem?_append_left (by simpa using hk)
  have at1 : (I ++ [i] ++ [j])[I.length + 1]? = some j := by rw [List.getElem?_append_right (by simp)]; simp
  have ati : (I ++ [i])[I.length]? = some i := by simp
  have no : ∀ k, I.length + 1 < k → (I ++ [i] ++ [j])[k]? = none := fun k hk => List.getElem?_eq_none (by simp; omega)
  refine ⟨by rw [lo 0 (by omega)]; exact h.h0, fun k a ha => ?_, fun k a b ha hb => ?_⟩
  · rcases Nat.lt_trichotomy k (I.length + 1) with q | q | q
    · rw [lo k q] at ha; exact h.lt k a ha
    · subst q; rw [at1] at ha; injection ha with ha; omega
    · rw [no k q] at ha; cases ha
  · rcases Nat.lt_trichotomy (k + 1) (I.length + 1) with q | q | q
    · rw [lo k (by omega)] at ha; rw [lo (k + 1) q] at hb; exact h.step k a b ha hb
    · rw [q, at1] at hb
      injection hb with hb
      rw [lo k (by omega), show k = I.length by omega, ati] at ha
      injection ha with ha
      subst ha hb
      exact ⟨hij, hs⟩
    · rw [no _ q] at hb; cases hb
theorem thinF_ch {m : List Mark} {s : Int} : ∀ (f i : Nat) (I : List Nat), m.length ≤ i + f → i < m.length → Ch m s (I ++ [i]) → ∃ J : List Nat, Ch m s (J ++ [m.length - 1]) ∧ thinF m s f i ((I ++ [i]).map (mAt m)) = (J ++ [m.length - 1]).map (mAt m)
  | 0, i, I, h, hi, hc => by omega
  | f + 1, i, I, h, hi, hc => by
    unfold thinF
    by_cases q : i + 1 < m.length
    · rw [if_pos q]
      have hn := nxN_is (m := m) (s := s) q
      generalize nxN m s i = j at *
      have := hn.gt
      obtain ⟨J, h1, h2⟩ := thinF_ch f j (I ++ [i]) (by omega) hn.lt (hc.snoc hn.lt hn.gt hn.str)
      refine ⟨J, h1, ?_⟩
      rw [← h2, List.map_append (l₂ := [j])]
      rfl
    · rw [if_neg q]
      exact ⟨I, by rw [show m.length - 1 = i by omega]; exact hc, by rw [show m.length - 1 = i by omega]⟩
theorem thin_ch {m : List Mark} {s : Int} (h : 0 < m.length) : ∃ J : List Nat, Ch m s (J ++ [m.length - 1]) ∧ thinF m s m.length 0 [mAt m 0] = (J ++ [m.length - 1]).map (mAt m) :=
  thinF_ch m.length 0 [] (by omega) h ⟨rfl, fun k a ha => (by cases k with | zero => (injection ha with ha; omega) | succ k => cases ha), fun k a b ha hb => (by cases hb)⟩
theorem Ch.mono {m : List Mark} {s : Int} {I : List Nat} (h : Ch m s I) : ∀ (k a : Nat), I[k]? = some a → k ≤ a
  | 0, a, _ => Nat.zero_le _
  | k + 1, a, ha => by
    have hk : k < I.length := by have := (List.getElem?_eq_some_iff.1 ha).1; omega
    have hb := List.getElem?_eq_getElem hk
    have := h.mono k _ hb
    have := (h.step k _ _ hb ha).1
    omega
structure ThinOk (m : List Mark) (s : Int) (T : List Mark) : Prop where
  ok : MarksOk T
  first : T[0]? = some (mAt m 0)
  last : T[T.length - 1]? = some (mAt m (m.length - 1))
  mem : ∀ (k : Nat) x, T[k]? = some x → x ∈ m
  near : ∀ i, i < m.length → 2 ≤ T.length → (-s ≤ atS T (mAt m i).1 - (mAt m i).2.1 ∧ atS T (mAt m i).1 - (mAt m i).2.1 ≤ s) ∧ 0 ≤ atS T (mAt m i).1 ∧ atS T (mAt m i).1 ≤ 1000000000000
theorem thin_facts {m : List Mark} (hM : MarksOk m) {s : Int} (s0 : 0 ≤ s) : ThinOk m s (thinF m s m.length 0 [mAt m 0]) := by
  have g := Good.of hM
  obtain ⟨J, hc, e⟩ := thin_ch (m := m) (s := s) g.pos
  rw [e]
  have hp := g.pos; have hl := g.most
  have hlast : (J ++ [m.length - 1])[J.length]? = some (m.length - 1) := by simp
  have hlen : (J ++ [m.length - 1]).length = J.length + 1 := by simp
  generalize J ++ [m.length - 1] = I at *
  have hJ := hc.mono _ _ hlast
  have gt : ∀ k : Nat, (I.map (mAt m))[k]? = (I[k]?).map (mAt m) := fun k => by simp
  have at' : ∀ (k a : Nat), I[k]? = some a → mAt (I.map (mAt m)) k = mAt m a := fun k a h => by
    show ((I.map (mAt m))[k]?).getD _ = _
    rw [gt, h]; rfl
  have hOk : MarksOk (I.map (mAt m)) := by
    refine ⟨by simp; omega, by simp; omega, fun x hx => ?_, fun k x y hx hy => ?_⟩
    · obtain ⟨a, ha, rfl⟩ := List.mem_map.1 hx
      obtain ⟨k, hk⟩ := List.getElem?_of_mem ha
      exact hM.ok _ (mAt_mem (hc.lt k a hk))
    · rw [gt] at hx hy
      obtain ⟨a, ha, rfl⟩ := Option.map_eq_some_iff.1 hx
      obtain ⟨b, hb, rfl⟩ := Option.map_eq_some_iff.1 hy
      exact g.inc a b (hc.step k a b ha hb).1 (hc.lt _ _ hb)
  refine ⟨hOk, by rw [gt, hc.h0]; rfl, by rw [gt]; simp only [List.length_map]; rw [show I.length - 1 = J.length by omega, hlast]; rfl, fun k x hx => ?_, fun i hi h2 => ?_⟩
  · rw [gt] at hx
    obtain ⟨a, ha, rfl⟩ := Option.map_eq_some_iff.1 hx
    exact mAt_mem (hc.lt _ _ ha)
  · have gT := Good.of hOk
    have hL := line_is gT h2 (mAt m i).1
    have e1 : atS (I.map (mAt m)) (mAt m i).1 = segS (I.map (mAt m)) (lineS (I.map (mAt m)) (mAt m i).1) (mAt m i).1 := rfl
    rw [e1]
    generalize lineS (I.map (mAt m)) (mAt m i).1 = k at *
    have k1 := hL.lt
    simp only [List.length_map] at k1 h2
    obtain ⟨a, ha⟩ : ∃ a, I[k]? = some a := ⟨_, List.getElem?_eq_getElem (by omega)⟩
    obtain ⟨b, hb⟩ : ∃ b, I[k + 1]? = some b := ⟨_, List.getElem?_eq_getElem (by omega)⟩
    obtain ⟨hab, hst⟩ := hc.step k a b ha hb
    have hbl := hc.lt _ _ hb
    have e2 : segS (I.map (mAt m)) k (mAt m i).1 = thr (mAt m a) (mAt m b) (mAt m i).1 := by
      unfold segS thr
      rw [at' k a ha, at' (k + 1) b hb]
    rw [e2]
    have hai : a ≤ i := by
      rcases hL.down with q | q
      · rw [at' k a ha] at q
        refine Nat.le_of_not_lt fun h => ?_
        have := g.inc i a h (by omega)
        omega
      · subst q
        rw [hc.h0] at ha
        injection ha with ha
        omega
    have hib : i ≤ b := by
      rcases hL.up with q | q
      · rw [at' (k + 1) b hb] at q
        refine Nat.le_of_not_lt fun h => ?_
        have := g.inc b i h hi
        omega
      · simp only [List.length_map] at q
        rw [show k + 1 = J.length by omega, hlast] at hb
        injection hb with hb
        omega
    have la := g.le hai hi
    have lb := g.le hib hbl
    obtain ⟨_, t1, t2⟩ := throughG_ok g hab hbl la.1 lb.1
    obtain ⟨⟨_, _⟩, ⟨a3, a4⟩, _⟩ := g.ok a (by omega)
    obtain ⟨⟨_, _⟩, ⟨b3, b4⟩, _⟩ := g.ok b hbl
    have hinc := g.inc a b hab hbl
    refine ⟨?_, by omega, by omega⟩
    by_cases q1 : i = a
    · subst q1
      have : thr (mAt m i) (mAt m b) (mAt m i).1 = (mAt m i).2.1 := by
        unfold thr
        rw [Int.sub_self, near_zero (by omega), Int.add_zero]
      omega
    · by_cases q2 : i = b
      · subst q2
        have : thr (mAt m a) (mAt m i) (mAt m i).1 = (mAt m i).2.1 := by
          unfold thr
          rw [near_full (by omega) (by omega)]
          omega
        omega
      · exact hst i (by omega) (by omega)
theorem mark_seq (x y : Mark) : seqA false [0, 0, 0] (mkV x) (mkV y) = some (.bool (decide (x = y))) := by
  obtain ⟨a, b, c⟩ := x
  obtain ⟨d, e, f⟩ := y
  by_cases h1 : a = d <;> by_cases h2 : b = e <;> by_cases h3 : c = f <;> simp [seqA, eqCells, tagOf, h1, h2, h3]
theorem mark_seqT (x y : Mark) : seqA true [0, 0, 0] (mkV x) (mkV y) = some (.bool (!decide (x = y))) := by
  obtain ⟨a, b, c⟩ := x
  obtain ⟨d, e, f⟩ := y
  by_cases h1 : a = d <;> by_cases h2 : b = e <;> by_cases h3 : c = f <;> simp [seqA, eqCells, tagOf, h1, h2, h3]
theorem indexM_ok (l : List Mark) (hl : l.length < 2 ^ 62) (x : Mark) : OkF Try.prog 83 [rM l, mkV x] (.int .i64 (ixI (fun a => decide (x = a)) l), []) := by
  refine OkF.W0 hm h83 (of_decide_eq_true rfl) ?_
  unfold c83
  simp -dsimp
  refine for_lt l.length (fun k t => t.t 0 = rM l ∧ t.t 3 = .pt 0 0 0 ∧ t.h 0 = some ⟨0, 0, [.int .i64 x.1, .int .i64 x.2.1, .int .i64 x.2.2], none⟩ ∧ Not' (fun a => decide (x = a)) l k) rfl hl (by simp -dsimp [Not'.zero]) (by simp -dsimp) (by simp -dsimp) (fun k t hk hI hi hn => ?_) (fun t hI hi hn => ?_)
  · obtain ⟨i0, i3, h0, iu⟩ := hI
    have hg := get_mAt hk
    generalize mAt l k = y at hg
    have hq := mark_seq x y
    unfold k83_0
    simp -dsimp [i0, i3, h0, hi, hn, m_ia hg, m_ld hg, hq]
    refine condK_of ?_ ?_ <;> intro q <;> simp -dsimp [q, i0, i3, h0, hi, hn]
    · simp [ixI_stop iu hg q]
    · exact iu.succ hg q
  · obtain ⟨i0, i3, h0, iu⟩ := hI
    simp -dsimp
    simp [ixI_none iu]
theorem containsM_ok (l : List Mark) (hl : l.length < 2 ^ 62) (x : Mark) (hx : x ∈ l) : OkF Try.prog 35 [rM l, mkV x] (.bool true, []) := by
  refine OkF.W0 hm h35 (of_decide_eq_true rfl) ?_
  unfold c35
  simp -dsimp
  refine call_pure (indexM_ok l hl x) (by simp) rfl ?_
  have := ixI_neg (p := fun a => decide (x = a)) (l := l)
  rw [List.any_eq_false] at this
  simp only [decide_eq_true_eq] at this
  have h0 : 0 ≤ ixI (fun a => decide (x = a)) l := by
    rcases Int.lt_or_le (ixI (fun a => decide (x = a)) l) 0 with q | q
    · exact absurd rfl (this.1 q x hx)
    · exact q
  simp -dsimp [h0]
end Go.Proofs.P3
end
section
set_option linter.unusedVariables false
set_option linter.unusedSimpArgs false
set_option maxRecDepth 10000
set_option maxHeartbeats 8000000
namespace Go.Proofs.P3
open Go.Ex
theorem MarksThinStayNear (l : List Mark) (s i : Int) : OkF Try.prog 7 [rM l, .int .i64 s, .int .i64 i] (.bool true, []) := by
  refine OkF.W0 hm h7 (of_decide_eq_true rfl) ?_
  unfold c7
  simp -dsimp
  refine call_pure (Thin_ok l s) (by simp) (by simp) ?_
  simp -dsimp
  by_cases a0 : thinE l s = 0
  rotate_left
  · have e : thinS l s = ([], thinE l s) := by unfold thinS; rw [if_pos a0]
    simp -dsimp [a0, e]
    refine call_pure awake2_ok (by simp) rfl ?_
    simp -dsimp
  have e : thinS l s = (thinF l s l.length 0 [mAt l 0], 0) := by unfold thinS; rw [if_neg (by simpa using a0)]
  have hme : marksE l = 0 := by
    unfold thinE at a0
    split at a0
    · rename_i q; exact absurd a0 q
    · rename_i q; simpa using q
  obtain ⟨g, s0, s1⟩ := thinE_good a0
  have hl := g.most; have hp := g.pos
  obtain ⟨tOk, tF, tL, tM, tN⟩ := thin_facts (marks_good hme) s0
  generalize thinF l s l.length 0 [mAt l 0] = T at *
  have tp := tOk.pos; have tm := tOk.most
  have hT := marks_mk tOk
  have hg0 := get_mAt hp
  have hgL := get_mAt (l := l) (k := l.length - 1) (by omega)
  have ia0 : ∀ (m : List Mark) (x : Mark), m[0]? = some x → ∀ h K, iaddrK h (.ro m.length (fl markCd m)) (.int .i64 0) 3 K ⟨⟩ = K (.rp (fl markCd m) 0) [] := fun m x hx h K => by
    have := m_ia (h := h) (kk := .i64) (K := K) hx
    simpa using this
  have ld0 : ∀ (m : List Mark) (x : Mark), m[0]? = some x → ∀ h, ldA h (.rp (fl markCd m) 0) (some 3) = some (mkV x) := fun m x hx h => by
    have := m_ld (h := h) hx
    simpa using this
  have iT0 := ia0 T _ tF
  have lT0 := ld0 T _ tF
  have il0 := ia0 l _ hg0
  have ll0 := ld0 l _ hg0
  have w1 : IntKind.i64.wrap ((T.length : Int) - 1) = ((T.length - 1 : Nat) : Int) := by rw [w_i64 (by omega) (by omega)]; omega
  have w2 : IntKind.i64.wrap ((l.length : Int) - 1) = ((l.length - 1 : Nat) : Int) := by rw [w_i64 (by omega) (by omega)]; omega
  have nT : ¬ T.length = 0 := by omega
  have nT2 : ¬ T = [] := fun h => nT (by rw [h]; rfl)
  have q1 := mark_seqT (mAt l 0) (mAt l 0)
  have q2 := mark_seqT (mAt l (l.length - 1)) (mAt l (l.length - 1))
  simp only [decide_true, Bool.not_true] at q1 q2
  generalize hx0 : mAt l 0 = x0 at *
  generalize hxL : mAt l (l.length - 1) = xL at *
  have mia := fun (h : Hp) (K : V → List Nat → Prop) => m_ia (h := h) (kk := .i64) (K := K) tL
  have mld := fun (h : Hp) => m_ld (h := h) tL
  have lia := fun (h : Hp) (K : V → List Nat → Prop) => m_ia (h := h) (kk := .i64) (K := K) hgL
  have lld := fun (h : Hp) => m_ld (h := h) hgL
  generalize hkT : T.length - 1 = kT at *
  generalize hkl : l.length - 1 = kl at *
  simp -dsimp [e, nT, nT2, iT0, lT0, il0, ll0, q1, w1, w2, mia, mld, lia, lld, q2]
  refine loop_to 9 T.length (fun k t => t.t 9 = .int .i64 k ∧ t.t 0 = rM l ∧ t.t 7 = rM T ∧ t.t 1 = .int .i64 s ∧ t.t 2 = .int .i64 i) (fun k t h => h.1) ?_ (fun k t hkl hI => ?_)
  · simp -dsimp
  · obtain ⟨i9, i0, i7, i1, i2⟩ := hI
    unfold l7_0
    by_cases hk : k < T.length
    · have hk' : (k : Int) < (T.length : Int) := by omega
      have wk : IntKind.i64.wrap ((k : Int) + 1) = ((k + 1 : Nat) : Int) := by rw [IntWalk.i64_in _ (by omega)]; simp
      have hg := get_mAt hk
      have hmem := tM k _ hg
      simp -dsimp [i9, i0, i7, hk, hk', m_ia hg, m_ld hg]
      refine call_pure (containsM_ok l (by omega) _ hmem) (by simp) rfl ?_
      simp -dsimp [i9, wk, i0, i7, i1, i2]
      omega
    · have hk' : ¬ (k : Int) < (T.length : Int) := by omega
      simp -dsimp [i9, i7, hk, hk']
      by_cases c1 : T.length < 2
      · have c1' : (T.length : Int) < 2 := by omega
        simp -dsimp [c1, c1']
        refine call_pure awake2_ok (by simp) rfl ?_
        simp -dsimp
      · have c1' : ¬ (T.length : Int) < 2 := by omega
        by_cases c2 : i < 0
        · simp -dsimp [c1, c1', i2, c2]
          refine call_pure awake2_ok (by simp) rfl ?_
          simp -dsimp
        · by_cases c3 : (l.length : Int) ≤ i
          · simp -dsimp [c1, c1', i2, c2, i0, c3]
            refine call_pure awake2_ok (by simp) rfl ?_
            simp -dsimp
          · obtain ⟨n, rfl⟩ := Int.eq_ofNat_of_zero_le (show 0 ≤ i by omega)
            have hn : n < l.length := by omega
            have hn' : ¬ l.length ≤ n := by omega
            have hgn := get_mAt hn
            obtain ⟨⟨r1, r2⟩, r3, r4⟩ := tN n hn (by omega)
            obtain ⟨⟨a1, a2⟩, ⟨a3, a4⟩, _⟩ := g.ok n hn
            have eT : timeS T (mAt l n).1 = (atS T (mAt l n).1, 0) := by unfold timeS; rw [if_pos hT, if_pos ⟨a1, a2⟩, if_neg (by omega), if_pos ⟨r3, r4⟩]
            have ct := TimeOf_ok T (mAt l n).1
            rw [eT] at ct
            generalize mAt l n = z at *
            generalize atS T z.1 = A at *
            have w3 : IntKind.i64.wrap (A - z.2.1) = A - z.2.1 := w_i64 (by omega) (by omega)
            have w4 : IntKind.i64.wrap (-s) = -s := w_i64 (by omega) (by omega)
            generalize hD : A - z.2.1 = D at *
            simp -dsimp [c1, c1', i2, c2, i0, c3, hn', i7, m_ia hgn, m_l0 hgn]
            refine call_pure ct (by simp) rfl ?_
            simp -dsimp [i0, i2, m_ia hgn, m_l1 hgn, hD, w3, i1, r2, w4, r1]
            refine call_pure awake2_ok (by simp) rfl ?_
            simp -dsimp
end Go.Proofs.P3
end
