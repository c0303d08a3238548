/- The calendar in plain Lean: years, months, days; the moments at which days begin. -/
import Derived.Test.YtjldiihndmkpfaaDoorExX
set_option linter.unusedVariables false
set_option linter.unusedSimpArgs false
set_option maxRecDepth 10000
set_option maxHeartbeats 8000000
namespace Go.Proofs.P4
open Go.Ex
def lp (y : Nat) : Prop := y % 4 = 0 ∧ (y % 100 ≠ 0 ∨ y % 400 = 0)
instance (y : Nat) : Decidable (lp y) := inferInstanceAs (Decidable (_ ∧ _))
def yl (y : Nat) : Nat := if lp y then 366 else 365
def dy : Nat → Nat
  | 0 => 0
  | y + 1 => dy y + yl y
theorem step4 (y : Nat) : (y + 1) / 4 = y / 4 + if (y + 1) % 4 = 0 then 1 else 0 := by split <;> omega
theorem step100 (y : Nat) : (y + 1) / 100 = y / 100 + if (y + 1) % 100 = 0 then 1 else 0 := by split <;> omega
theorem step400 (y : Nat) : (y + 1) / 400 = y / 400 + if (y + 1) % 400 = 0 then 1 else 0 := by split <;> omega
theorem mod4 {y : Nat} (h : y % 100 = 0) : y % 4 = 0 := by omega
theorem mod100 {y : Nat} (h : y % 400 = 0) : y % 100 = 0 := by omega
theorem div100 (y : Nat) : y / 100 ≤ y / 4 := Nat.div_le_div_left (by decide) (by decide)
theorem dy_eq : ∀ y, dy (y + 1) = 366 + y * 365 + y / 4 - y / 100 + y / 400
  | 0 => by decide
  | y + 1 => by
    rw [dy, dy_eq y, step4, step100, step400]
    have h1 := @mod4 (y + 1)
    have h2 := @mod100 (y + 1)
    have h3 := div100 y
    unfold yl lp
    by_cases q1 : (y + 1) % 4 = 0 <;> by_cases q2 : (y + 1) % 100 = 0 <;> by_cases q3 : (y + 1) % 400 = 0
    all_goals first
      | exact absurd (h1 q2) q1
      | exact absurd (h2 q3) q2
      | (clear h1 h2
         simp only [q1, q2, q3, if_true, if_false, ne_eq, not_true, not_false_eq_true, true_and, and_true, false_and, and_false, or_true, true_or, or_false, false_or]
         clear q1 q2 q3
         generalize y / 4 = a at *
         generalize y / 100 = b at *
         generalize y / 400 = c at *
         omega)
def lg (y m : Nat) : Nat := if m = 2 then (if lp y then 29 else 28) else if m = 4 ∨ m = 6 ∨ m = 9 ∨ m = 11 then 30 else 31
def mo (y : Nat) : Nat → Nat
  | 0 => 0
  | m + 1 => mo y m + if m = 0 then 0 else lg y m
theorem mo_succ {y m : Nat} (h : 1 ≤ m) : mo y (m + 1) = mo y m + lg y m := by rw [mo, if_neg (by omega)]
theorem mo_13 (y : Nat) : mo y 13 = yl y := by
  unfold yl
  by_cases h : lp y <;> simp [mo, lg, h]
theorem mo_le (y : Nat) : ∀ (m n : Nat), m ≤ n → mo y m ≤ mo y n
  | m, 0, h => by rw [Nat.le_zero.1 h]; exact Nat.le_refl _
  | m, n + 1, h => by
    rcases Nat.lt_or_ge n m with q | q
    · rw [show m = n + 1 by omega]; exact Nat.le_refl _
    · have := mo_le y m n q
      rw [mo]
      omega
theorem dy_le : ∀ (y z : Nat), y ≤ z → dy y ≤ dy z
  | y, 0, h => by rw [Nat.le_zero.1 h]; exact Nat.le_refl _
  | y, z + 1, h => by
    rcases Nat.lt_or_ge z y with q | q
    · rw [show y = z + 1 by omega]; exact Nat.le_refl _
    · have := dy_le y z q
      rw [dy]
      omega
theorem lg_pos (y m : Nat) : 28 ≤ lg y m ∧ lg y m ≤ 31 := by
  unfold lg
  split
  · split <;> omega
  · split <;> omega
abbrev Ymd := Nat × Nat × Nat
structure Vd (p : Ymd) : Prop where
  m1 : 1 ≤ p.2.1
  m2 : p.2.1 ≤ 12
  d : p.2.2 < lg p.1 p.2.1
def dn (p : Ymd) : Nat := dy p.1 + mo p.1 p.2.1 + p.2.2
theorem dn_lt {p : Ymd} (h : Vd p) : dn p < dy (p.1 + 1) ∧ mo p.1 p.2.1 + p.2.2 < mo p.1 (p.2.1 + 1) := by
  have a := mo_succ (y := p.1) h.m1
  have b := mo_le p.1 (p.2.1 + 1) 13 (by have := h.m2; omega)
  rw [mo_13] at b
  have := h.d
  unfold dn
  rw [dy]
  omega
/-- Days are in the order of their dates. -/
theorem dn_lex {p q : Ymd} (hp : Vd p) (hq : Vd q) (h : dn p < dn q) : p.1 < q.1 ∨ p.1 = q.1 ∧ (p.2.1 < q.2.1 ∨ p.2.1 = q.2.1 ∧ p.2.2 < q.2.2) := by
  obtain ⟨a1, a2⟩ := dn_lt hp
  obtain ⟨b1, b2⟩ := dn_lt hq
  obtain ⟨y, m, d⟩ := p
  obtain ⟨y', m', d'⟩ := q
  simp only [dn] at *
  rcases Nat.lt_trichotomy y y' with e | rfl | e
  · exact .inl e
  · refine .inr ⟨rfl, ?_⟩
    rcases Nat.lt_trichotomy m m' with e | rfl | e
    · exact .inl e
    · exact .inr ⟨rfl, by omega⟩
    · have := mo_le y (m' + 1) m e
      omega
  · have := dy_le (y' + 1) y e
    omega
theorem dn_inj {p q : Ymd} (hp : Vd p) (hq : Vd q) (h : dn p = dn q) : p = q := by
  obtain ⟨a1, a2⟩ := dn_lt hp
  obtain ⟨b1, b2⟩ := dn_lt hq
  obtain ⟨y, m, d⟩ := p
  obtain ⟨y', m', d'⟩ := q
  simp only [dn] at *
  rcases Nat.lt_trichotomy y y' with e | rfl | e
  · have := dy_le (y + 1) y' e
    omega
  · rcases Nat.lt_trichotomy m m' with e | rfl | e
    · have := mo_le y (m + 1) m' e
      omega
    · rw [show d = d' by omega]
    · have := mo_le y (m' + 1) m e
      omega
  · have := dy_le (y' + 1) y e
    omega
open Classical in
/-- The date of a day. -/
noncomputable def civ (n : Nat) : Ymd := if h : ∃ p, Vd p ∧ dn p = n then h.choose else (0, 1, 0)
theorem civ_of {p : Ymd} (h : Vd p) : civ (dn p) = p := by
  have hx : ∃ q, Vd q ∧ dn q = dn p := ⟨p, h, rfl⟩
  unfold civ
  rw [dif_pos hx]
  exact dn_inj hx.choose_spec.1 h hx.choose_spec.2
theorem civ_eq {p : Ymd} {n : Nat} (h : Vd p) (e : dn p = n) : civ n = p := by rw [← e]; exact civ_of h
/-- How many of the days lie before a day. -/
def cnt (l : List Int) (d : Int) : Nat := (l.filter fun x => decide (x < d)).length
def st (l : List Int) (d : Int) : Int := d * 86400000 + 1000 * cnt l d
theorem cnt_le (l : List Int) (d : Int) : cnt l d ≤ l.length := List.length_filter_le _ _
theorem cnt_mono : ∀ (l : List Int) {d e : Int}, d ≤ e → cnt l d ≤ cnt l e
  | [], _, _, _ => Nat.le_refl _
  | a :: l, d, e, h => by
    have ih := cnt_mono l h
    unfold cnt at *
    simp only [List.filter_cons]
    by_cases h1 : a < d
    · have h2 : a < e := by omega
      simp only [h1, h2, decide_true, if_true, List.length_cons]
      omega
    · by_cases h2 : a < e <;> simp only [h1, h2, decide_true, decide_false, if_true, if_false, List.length_cons, Bool.false_eq_true] <;> omega
theorem st_lt {l : List Int} {d e : Int} (h : d < e) : st l d + 86400000 ≤ st l e := by
  have := cnt_mono l (show d ≤ e by omega)
  unfold st
  omega
/-- Ascending. -/
def Asc (l : List Int) : Prop := ∀ (i j : Nat) (a b : Int), i < j → l[i]? = some a → l[j]? = some b → a < b
theorem asc_tail {a : Int} {l : List Int} (h : Asc (a :: l)) : Asc l := fun i j x y hij hx hy => h (i + 1) (j + 1) x y (by omega) hx hy
theorem asc_head {a : Int} {l : List Int} (h : Asc (a :: l)) : ∀ b ∈ l, a < b := fun b hb => by
  obtain ⟨j, hj⟩ := List.getElem?_of_mem hb
  exact h 0 (j + 1) a b (by omega) rfl hj
theorem cnt_none {l : List Int} {d : Int} (h : ∀ b ∈ l, ¬ b < d) : cnt l d = 0 := by
  unfold cnt
  rw [List.length_eq_zero_iff, List.filter_eq_nil_iff]
  intro b hb
  simpa using h b hb
theorem cnt_succ : ∀ {l : List Int} (h : Asc l) (d : Int), cnt l (d + 1) = cnt l d + if d ∈ l then 1 else 0
  | [], _, d => rfl
  | a :: l, h, d => by
    have ih := cnt_succ (asc_tail h) d
    have hh := asc_head h
    have e : ∀ x, cnt (a :: l) x = cnt l x + if a < x then 1 else 0 := fun x => by
      unfold cnt
      rw [List.filter_cons]
      by_cases q : a < x <;> simp [q]
    rw [e, e]
    by_cases q : d ∈ l
    · have := hh d q
      rw [if_pos q] at ih
      rw [if_pos (show a < d + 1 by omega), if_pos (show a < d by omega), if_pos (List.mem_cons_of_mem _ q)]
      omega
    · rw [if_neg q] at ih
      by_cases q2 : a = d
      · subst q2
        rw [if_pos (show a < a + 1 by omega), if_neg (show ¬ a < a by omega), if_pos (List.mem_cons_self ..)]
        omega
      · have q3 : d ∉ a :: l := by
          rw [List.mem_cons]
          rintro (w | w)
          · exact q2 w.symm
          · exact q w
        rw [if_neg q3]
        by_cases q4 : a < d
        · rw [if_pos (show a < d + 1 by omega), if_pos q4]; omega
        · rw [if_neg (show ¬ a < d + 1 by omega), if_neg q4]; omega
theorem st_succ {l : List Int} (h : Asc l) (d : Int) : st l (d + 1) = st l d + 86400000 + if d ∈ l then 1000 else 0 := by
  unfold st
  rw [cnt_succ h]
  split <;> omega
/-- Halving finds how many lie before. -/
theorem cnt_at : ∀ {l : List Int} (h : Asc l) {d : Int} {k : Nat}, k ≤ l.length → (∀ i a, i < k → l[i]? = some a → a < d) → (∀ i a, k ≤ i → l[i]? = some a → ¬ a < d) → cnt l d = k
  | [], _, d, k, hk, _, _ => by simp at hk; subst hk; rfl
  | a :: l, h, d, 0, hk, h1, h2 => cnt_none fun b hb => by
    obtain ⟨j, hj⟩ := List.getElem?_of_mem hb
    exact h2 j b (by omega) hj
  | a :: l, h, d, k + 1, hk, h1, h2 => by
    have := cnt_at (asc_tail h) (d := d) (k := k) (by simpa using hk) (fun i x hi hx => h1 (i + 1) x (by omega) hx) (fun i x hi hx => h2 (i + 1) x (by omega) hx)
    have ha := h1 0 a (by omega) rfl
    unfold cnt at *
    rw [List.filter_cons]
    simp only [ha, decide_true, if_true, List.length_cons]
    omega
theorem cnt_iff : ∀ {l : List Int} (h : Asc l) {d : Int} {k : Nat} {y : Int}, l[k]? = some y → (y < d ↔ k < cnt l d)
  | [], _, _, _, _, hk => by simp at hk
  | a :: l, h, d, k, y, hk => by
    have e : cnt (a :: l) d = cnt l d + if a < d then 1 else 0 := by
      unfold cnt
      rw [List.filter_cons]
      by_cases q : a < d <;> simp [q]
    have hh := asc_head h
    have hz : ¬ a < d → cnt l d = 0 := fun q => cnt_none fun b hb => by have := hh b hb; omega
    rw [e]
    match k, hk with
    | 0, hk =>
      rw [List.getElem?_cons_zero] at hk
      injection hk with hk
      subst hk
      by_cases q : a < d
      · rw [if_pos q]; exact ⟨fun _ => by omega, fun _ => q⟩
      · rw [if_neg q, hz q]; exact ⟨fun w => absurd w q, fun w => by omega⟩
    | k + 1, hk =>
      rw [List.getElem?_cons_succ] at hk
      have ih := cnt_iff (asc_tail h) (d := d) hk
      by_cases q : a < d
      · rw [if_pos q, ih]; omega
      · have := hh y (List.mem_of_getElem? hk)
        have := hz q
        rw [if_neg q]
        omega
/-- The day of a moment. -/
def dayF (l : List Int) (time : Int) : Nat → Nat
  | 0 => 0
  | d + 1 => if time < st l (d + 1 : Nat) then dayF l time d else d + 1
theorem dayF_eq {l : List Int} {time : Int} {d : Nat} (h1 : st l d ≤ time) (h2 : time < st l ((d : Int) + 1)) : ∀ e, d ≤ e → dayF l time e = d
  | 0, he => by rw [show d = 0 by omega]; rfl
  | e + 1, he => by
    rw [dayF]
    rcases Nat.lt_or_ge e d with q | q
    · have e1 : d = e + 1 := by omega
      subst e1
      rw [if_neg (by omega)]
    · have : st l ((d : Int) + 1) ≤ st l ((e + 1 : Nat) : Int) := by
        rcases Nat.lt_or_ge d e with w | w
        · have := st_lt (l := l) (d := (d : Int) + 1) (e := ((e + 1 : Nat) : Int)) (by omega)
          omega
        · have : e = d := by omega
          subst this
          rw [show ((e + 1 : Nat) : Int) = (e : Int) + 1 by omega]
          exact Int.le_refl _
      rw [if_pos (by omega)]
      exact dayF_eq h1 h2 e q
def dayOf (l : List Int) (time : Int) : Nat := dayF l time (time / 86400000).toNat
theorem dayF_spec {l : List Int} {time : Int} (hz : st l 0 ≤ time) (e : Nat) (h : time < st l ((e : Int) + 1)) : st l (dayF l time e) ≤ time ∧ time < st l ((dayF l time e : Int) + 1) ∧ dayF l time e ≤ e := by
  induction e with
  | zero =>
    have e : dayF l time 0 = 0 := rfl
    rw [e]
    exact ⟨hz, h, Nat.le_refl _⟩
  | succ e ih =>
    by_cases q : time < st l ((e + 1 : Nat) : Int)
    · have e1 : dayF l time (e + 1) = dayF l time e := by rw [dayF, if_pos q]
      obtain ⟨a, b, c⟩ := ih q
      rw [e1]
      exact ⟨a, b, Nat.le_succ_of_le c⟩
    · have e1 : dayF l time (e + 1) = e + 1 := by rw [dayF, if_neg q]
      rw [e1]
      exact ⟨Int.not_lt.1 q, h, Nat.le_refl _⟩
structure LeapsOk (l : List Int) : Prop where
  most : l.length ≤ 100
  asc : Asc l
  lo : ∀ a ∈ l, 0 ≤ a ∧ a ≤ 20000
theorem st_zero {l : List Int} (h : LeapsOk l) : st l 0 = 0 := by
  unfold st
  rw [cnt_none fun b hb => by have := h.lo b hb; omega]
  rfl
theorem dayOf_spec {l : List Int} {time : Int} (h : LeapsOk l) (h0 : 0 ≤ time) : st l (dayOf l time) ≤ time ∧ time < st l ((dayOf l time : Int) + 1) ∧ dayOf l time ≤ (time / 86400000).toNat := by
  refine dayF_spec (by rw [st_zero h]; exact h0) _ ?_
  unfold st
  omega
theorem dayOf_eq {l : List Int} {time : Int} {d : Nat} (h : LeapsOk l) (h1 : st l d ≤ time) (h2 : time < st l ((d : Int) + 1)) : dayOf l time = d := by
  refine dayF_eq h1 h2 _ ?_
  have : (d : Int) * 86400000 ≤ time := by unfold st at h1; omega
  omega
end Go.Proofs.P4

