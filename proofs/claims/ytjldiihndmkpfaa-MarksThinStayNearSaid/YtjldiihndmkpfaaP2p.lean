/- Straight lines through marks, and the mark that is taken next: plain. -/
import Derived.Test.YtjldiihndmkpfaaP2o
set_option linter.unusedVariables false
set_option linter.unusedSimpArgs false
set_option maxRecDepth 10000
set_option maxHeartbeats 4000000
namespace Go.Proofs.P3
open Go.Ex
theorem near_eq {a b d : Int} (ha : 0 ≤ a) (had : a ≤ d) (hb : 0 ≤ b) (hb1 : b ≤ 1000000000000) (hd : 0 < d) : nearR a b d = nearS a b d ∧ (∀ N : Int, nearS a b d ≤ N ↔ 2 * (a * b) < (2 * N + 1) * d) ∧ 0 ≤ nearS a b d ∧ nearS a b d ≤ b := by
  have hP : a * b ≤ d * b := Int.mul_le_mul_of_nonneg_right had hb
  have hP0 : 0 ≤ a * b := Int.mul_nonneg ha hb
  unfold nearR nearS rndUp divR
  simp only [if_neg (show ¬ a < 0 by omega)]
  generalize a * b = P at *
  have hq := Int.mul_ediv_add_emod P d
  have hr0 := Int.emod_nonneg P (show d ≠ 0 by omega)
  have hr1 := Int.emod_lt_of_pos P hd
  have hq0 : 0 ≤ P / d := Int.ediv_nonneg hP0 (by omega)
  generalize P / d = q at *
  generalize P % d = r at *
  have hqb : q ≤ b := by
    refine Int.le_of_not_gt fun h => ?_
    have := Int.mul_le_mul_of_nonneg_left (show b + 1 ≤ q by omega) (show 0 ≤ d by omega)
    have e : d * (b + 1) = d * b + d := by grind
    omega
  have hqb2 : d - r ≤ r → q + 1 ≤ b := fun hr => by
    refine Int.le_of_not_gt fun h => ?_
    have : q = b := by omega
    subst this
    omega
  simp only [if_neg (show ¬ 4611686018427387904 ≤ q by omega), if_neg (show ¬ q ≥ 4611686018427387903 by omega)]
  have key : ∀ N : Int, (if r ≥ d - r then q + 1 else q) ≤ N ↔ 2 * P < (2 * N + 1) * d := by
    intro N
    have e : (2 * N + 1) * d = 2 * (d * N) + d := by grind
    rw [e]
    rcases Int.lt_or_le N q with h | h
    · have := Int.mul_le_mul_of_nonneg_left (show N + 1 ≤ q by omega) (show 0 ≤ d by omega)
      have e2 : d * (N + 1) = d * N + d := by grind
      split <;> omega
    · rcases Int.lt_or_le q N with h2 | h2
      · have := Int.mul_le_mul_of_nonneg_left (show q + 1 ≤ N by omega) (show 0 ≤ d by omega)
        have e2 : d * (q + 1) = d * q + d := by grind
        split <;> omega
      · have : N = q := by omega
        subst this
        split <;> omega
  refine ⟨?_, key, ?_, ?_⟩
  · split <;> split <;> omega
  · split <;> omega
  · split
    · rename_i h; exact hqb2 (by omega)
    · exact hqb
/-- The time of the line through two marks at a tick. -/
def thr (x y : Mark) (tick : Int) : Int := x.2.1 + nearS (tick - x.1) (y.2.1 - x.2.1) (y.1 - x.1)
def okK (m : List Mark) (s : Int) (i j k : Nat) : Prop := -s ≤ thr (mAt m i) (mAt m j) (mAt m k).1 - (mAt m k).2.1 ∧ thr (mAt m i) (mAt m j) (mAt m k).1 - (mAt m k).2.1 ≤ s
def Str (m : List Mark) (s : Int) (i j : Nat) : Prop := ∀ k, i < k → k < j → okK m s i j k
def flK (m : List Mark) (s : Int) (i k : Nat) : Int × Int := (2 * ((mAt m k).2.1 - (mAt m i).2.1) - 2 * s - 1, (mAt m k).1 - (mAt m i).1)
def ceK (m : List Mark) (s : Int) (i k : Nat) : Int × Int := (2 * ((mAt m k).2.1 - (mAt m i).2.1) + 2 * s + 1, (mAt m k).1 - (mAt m i).1)
def riK (m : List Mark) (i j : Nat) : Int × Int := (2 * ((mAt m j).2.1 - (mAt m i).2.1), (mAt m j).1 - (mAt m i).1)
theorem okK_iff {m : List Mark} (g : Good m) {s : Int} {i j k : Nat} (h1 : i < k) (h2 : k < j) (hj : j < m.length) : okK m s i j k ↔ lsB (riK m i j) (flK m s i k) = false ∧ lsB (riK m i j) (ceK m s i k) = true := by
  have a := g.inc i k h1 (by omega)
  have b := g.inc k j h2 hj
  have oi := g.ok i (by omega)
  have oj := g.ok j hj
  obtain ⟨_, hN, _, _⟩ := near_eq (a := (mAt m k).1 - (mAt m i).1) (b := (mAt m j).2.1 - (mAt m i).2.1) (d := (mAt m j).1 - (mAt m i).1) (by omega) (by omega) (by omega) (by have := oi.2.1; have := oj.2.1; omega) (by omega)
  unfold okK thr lsB riK flK ceK
  simp only [decide_eq_true_eq, decide_eq_false_iff_not]
  generalize (mAt m i).2.1 = t at *
  generalize (mAt m i).1 = c at *
  have n1 := hN ((mAt m k).2.1 - t + s)
  have n2 := hN ((mAt m k).2.1 - t - s - 1)
  generalize (mAt m k).1 - c = ak at *
  generalize (mAt m j).1 - c = d at *
  generalize (mAt m j).2.1 - t = R at *
  have e1 : 2 * R * ak = 2 * (ak * R) := by grind
  have e2 : 2 * ((mAt m k).2.1 - t) + 2 * s + 1 = 2 * ((mAt m k).2.1 - t + s) + 1 := by omega
  have e3 : 2 * ((mAt m k).2.1 - t) - 2 * s - 1 = 2 * ((mAt m k).2.1 - t - s - 1) + 1 := by omega
  rw [e1, e2, e3, ← n1, ← n2]
  omega
theorem fr_trans {x f c : Int × Int} (hf : 0 < f.2) (hx : 0 < x.2) (hc : 0 < c.2) (h1 : lsB x f = true) (h2 : lsB c f = false) : lsB x c = true := by
  unfold lsB at *
  simp only [decide_eq_true_eq, decide_eq_false_iff_not, Int.not_lt] at *
  -- x.1 * f.2 < f.1 * x.2, f.1 * c.2 ≤ c.1 * f.2
  have a : x.1 * f.2 * c.2 < f.1 * x.2 * c.2 := Int.mul_lt_mul_of_pos_right h1 hc
  have b : f.1 * c.2 * x.2 ≤ c.1 * f.2 * x.2 := Int.mul_le_mul_of_nonneg_right h2 (by omega)
  have e1 : x.1 * f.2 * c.2 = f.2 * (x.1 * c.2) := by grind
  have e2 : f.1 * x.2 * c.2 = f.1 * c.2 * x.2 := by grind
  have e3 : c.1 * f.2 * x.2 = f.2 * (c.1 * x.2) := by grind
  exact Int.lt_of_mul_lt_mul_left (show f.2 * (x.1 * c.2) < f.2 * (c.1 * x.2) by omega) (by omega)
theorem fr_trans2 {x f c : Int × Int} (hf : 0 < f.2) (hx : 0 < x.2) (hc : 0 < c.2) (h1 : lsB x f = true) (h2 : lsB f c = true) : lsB x c = true := by
  refine fr_trans hf hx hc h1 ?_
  unfold lsB at *
  simp only [decide_eq_true_eq, decide_eq_false_iff_not, Int.not_lt] at *
  omega
/-- What the floor knows: below it is what is below one of its marks. -/
structure FlI (m : List Mark) (s : Int) (i j : Nat) (f : Int × Int) : Prop where
  ok : FrOk f
  iff : ∀ x : Int × Int, 0 < x.2 → (lsB x f = true ↔ ∃ k, i < k ∧ k < j ∧ lsB x (flK m s i k) = true)
structure CeI (m : List Mark) (s : Int) (i j : Nat) (c : Int × Int) : Prop where
  ok : FrOk c
  iff : ∀ x : Int × Int, 0 < x.2 → (lsB x c = true ↔ ∀ k, i < k → k < j → lsB x (ceK m s i k) = true)
theorem fr_ok {m : List Mark} (g : Good m) {s : Int} (s0 : 0 ≤ s) (s1 : s ≤ 1000000000) {i k : Nat} (h : i < k) (hk : k < m.length) : FrOk (flK m s i k) ∧ FrOk (ceK m s i k) ∧ FrOk (riK m i k) := by
  have a := g.inc i k h hk
  have oi := g.ok i (by omega)
  have ok := g.ok k hk
  obtain ⟨⟨a1, a2⟩, ⟨a3, a4⟩, _⟩ := oi
  obtain ⟨⟨b1, b2⟩, ⟨b3, b4⟩, _⟩ := ok
  unfold flK ceK riK
  refine ⟨⟨?_, ?_, ?_, ?_⟩, ⟨?_, ?_, ?_, ?_⟩, ⟨?_, ?_, ?_, ?_⟩⟩ <;> simp only <;> omega
theorem fl_first {m : List Mark} (g : Good m) {s : Int} (s0 : 0 ≤ s) (s1 : s ≤ 1000000000) {i : Nat} (hi : i + 1 < m.length) : FlI m s i (i + 1 + 1) (flK m s i (i + 1)) ∧ CeI m s i (i + 1 + 1) (ceK m s i (i + 1)) := by
  obtain ⟨h1, h2, h3⟩ := fr_ok g s0 s1 (i := i) (k := i + 1) (by omega) hi
  refine ⟨⟨h1, fun x hx => ⟨fun h => ⟨i + 1, by omega, by omega, h⟩, ?_⟩⟩, ⟨h2, fun x hx => ⟨fun h k a b => ?_, fun h => h _ (by omega) (by omega)⟩⟩⟩
  · rintro ⟨k, a, b, h⟩
    rwa [show k = i + 1 by omega] at h
  · rwa [show k = i + 1 by omega]
theorem fl_next {m : List Mark} (g : Good m) {s : Int} (s0 : 0 ≤ s) (s1 : s ≤ 1000000000) {i j : Nat} (hij : i < j) (hj : j < m.length) {f : Int × Int} (h : FlI m s i j f) : FlI m s i (j + 1) (if lsB f (flK m s i j) = true then flK m s i j else f) := by
  obtain ⟨h1, h2, h3⟩ := fr_ok g s0 s1 hij hj
  have hs : ∀ x : Int × Int, (∃ k, i < k ∧ k < j + 1 ∧ lsB x (flK m s i k) = true) ↔ (∃ k, i < k ∧ k < j ∧ lsB x (flK m s i k) = true) ∨ lsB x (flK m s i j) = true := fun x => by
    constructor
    · rintro ⟨k, a, b, c⟩
      by_cases e : k = j
      · subst e; exact .inr c
      · exact .inl ⟨k, a, by omega, c⟩
    · rintro (⟨k, a, b, c⟩ | c)
      · exact ⟨k, a, by omega, c⟩
      · exact ⟨j, hij, by omega, c⟩
  split
  · rename_i q
    refine ⟨h1, fun x hx => ?_⟩
    rw [hs, ← h.iff x hx]
    exact ⟨.inr, fun o => by rcases o with o | o; exact fr_trans2 h.ok.d0 hx h1.d0 o q; exact o⟩
  · rename_i q
    refine ⟨h.ok, fun x hx => ?_⟩
    rw [hs, ← h.iff x hx]
    refine ⟨.inl, fun o => ?_⟩
    rcases o with o | o
    · exact o
    · exact fr_trans h1.d0 hx h.ok.d0 o (by simpa using q)
theorem ce_next {m : List Mark} (g : Good m) {s : Int} (s0 : 0 ≤ s) (s1 : s ≤ 1000000000) {i j : Nat} (hij : i < j) (hj : j < m.length) {c : Int × Int} (h : CeI m s i j c) : CeI m s i (j + 1) (if lsB (ceK m s i j) c = true then ceK m s i j else c) := by
  obtain ⟨h1, h2, h3⟩ := fr_ok g s0 s1 hij hj
  have hs : ∀ x : Int × Int, (∀ k, i < k → k < j + 1 → lsB x (ceK m s i k) = true) ↔ (∀ k, i < k → k < j → lsB x (ceK m s i k) = true) ∧ lsB x (ceK m s i j) = true := fun x => by
    constructor
    · exact fun h => ⟨fun k a b => h k a (by omega), h j hij (by omega)⟩
    · rintro ⟨a, b⟩ k k1 k2
      by_cases e : k = j
      · subst e; exact b
      · exact a k k1 (by omega)
  split
  · rename_i q
    refine ⟨h2, fun x hx => ?_⟩
    rw [hs, ← h.iff x hx]
    exact ⟨fun o => ⟨fr_trans2 h2.d0 hx h.ok.d0 o q, o⟩, fun o => o.2⟩
  · rename_i q
    refine ⟨h.ok, fun x hx => ?_⟩
    rw [hs, ← h.iff x hx]
    exact ⟨fun o => ⟨o, fr_trans h.ok.d0 hx h2.d0 o (by simpa using q)⟩, fun o => o.1⟩
theorem str_iff {m : List Mark} (g : Good m) {s : Int} {i j : Nat} (hij : i < j) (hj : j < m.length) {f c : Int × Int} (hf : FlI m s i j f) (hc : CeI m s i j c) : Str m s i j ↔ lsB (riK m i j) f = false ∧ lsB (riK m i j) c = true := by
  have hd : 0 < (riK m i j).2 := by have := g.inc i j hij hj; unfold riK; simp only; omega
  rw [hc.iff _ hd, ← Bool.not_eq_true, hf.iff _ hd]
  constructor
  · intro h
    refine ⟨fun ⟨k, a, b, e⟩ => ?_, fun k a b => ((okK_iff g a b hj).1 (h k a b)).2⟩
    have := ((okK_iff g a b hj).1 (h k a b)).1
    rw [e] at this
    cases this
  · rintro ⟨h1, h2⟩ k a b
    refine (okK_iff g a b hj).2 ⟨?_, h2 k a b⟩
    cases q : lsB (riK m i j) (flK m s i k) with
    | false => rfl
    | true => exact absurd ⟨k, a, b, q⟩ h1
structure IsNx (m : List Mark) (s : Int) (i f n : Nat) : Prop where
  gt : i < f
  lt : f < n
  str : Str m s i f
  no : ∀ j, f < j → j < n → ¬ Str m s i j
theorem IsNx.unique {m : List Mark} {s : Int} {i f e n : Nat} (a : IsNx m s i f n) (b : IsNx m s i e n) : f = e := by
  rcases Nat.lt_trichotomy f e with h | h | h
  · exact absurd b.str (a.no e h b.lt)
  · exact h
  · exact absurd a.str (b.no f h a.lt)
theorem str_one (m : List Mark) (s : Int) (i : Nat) : Str m s i (i + 1) := fun k a b => by omega
theorem nx_ex (m : List Mark) (s : Int) (i : Nat) : ∀ n, i + 1 < n → ∃ f, IsNx m s i f n := by
  intro n
  induction n with
  | zero => intro h; omega
  | succ n ih =>
    intro h
    by_cases c : Str m s i n
    · by_cases e : i < n
      · exact ⟨n, e, by omega, c, fun j a b => by omega⟩
      · omega
    · by_cases e : i + 1 < n
      · obtain ⟨f, hf⟩ := ih e
        refine ⟨f, hf.gt, by have := hf.lt; omega, hf.str, fun j a b => ?_⟩
        by_cases e2 : j = n
        · subst e2; exact c
        · exact hf.no j a (by omega)
      · exact absurd (by rw [show n = i + 1 by omega]; exact str_one m s i) c
open Classical in
noncomputable def nxN (m : List Mark) (s : Int) (i : Nat) : Nat := if h : ∃ f, IsNx m s i f m.length then Classical.choose h else i + 1
theorem nxN_is {m : List Mark} {s : Int} {i : Nat} (h : i + 1 < m.length) : IsNx m s i (nxN m s i) m.length := by
  have hx := nx_ex m s i m.length h
  unfold nxN
  rw [dif_pos hx]
  exact Classical.choose_spec hx
theorem nxN_of {m : List Mark} {s : Int} {i f : Nat} (h : IsNx m s i f m.length) : nxN m s i = f := by
  have : i + 1 < m.length := by have := h.gt; have := h.lt; omega
  exact (nxN_is this).unique h
noncomputable def thinF (m : List Mark) (s : Int) : Nat → Nat → List Mark → List Mark
  | 0, _, acc => acc
  | n + 1, i, acc => if i + 1 < m.length then thinF m s n (nxN m s i) (acc ++ [mAt m (nxN m s i)]) else acc
def thinE (m : List Mark) (s : Int) : Int := if marksE m ≠ 0 then marksE m else if inB s 0 1000000000 = false then 1 else 0
noncomputable def thinS (m : List Mark) (s : Int) : List Mark × Int := if thinE m s ≠ 0 then ([], thinE m s) else (thinF m s m.length 0 [mAt m 0], 0)
end Go.Proofs.P3
