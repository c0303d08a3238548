/- Unrolled and Rolled answer as the reference does, with all errors, for every list and every width; no condition. -/
import Derived.Test.YtjbchhabdlbflaaPCountersMatchSpecx3
import Derived.Test.YtjbchhabdlbflaaWSized
set_option linter.unusedVariables false
set_option linter.unusedSimpArgs false
/-- The printed row names this lemma without the seat's own words' namespace. -/
abbrev Go.Proofs.Ytjbchhabdlbflaa.PrintWords.sized_ints := @Go.Proofs.YtjbchhabdlbflaaW.PrintWords.sized_ints
namespace Go.Proofs.Ytjbchhabdlbflaa.Pure
open Go.RowKit Go.Proofs.Ytjbchhabdlbflaa.PCountersMatchSpec Go.Proofs.YtjbchhabdlbflaaW.PrintWords Go.Proofs.YtjbchhabdlbflaaW.PrintLast Go.Proofs.YtjbchhabdlbflaaW.PrintMore

/-! ### plain words: numbers, lists, rounds -/
theorem wf64 {x : Int} (h : (Lit.int .i64 x).wf = true) : -9223372036854775808 ≤ x ∧ x ≤ 9223372036854775807 := by
  simp only [Lit.wf, IntKind.min, IntKind.max, IntKind.signed, IntKind.bits, Bool.and_eq_true, decide_eq_true_eq, if_true] at h
  omega
theorem w64 {x : Int} (h0 : -9223372036854775808 ≤ x) (h1 : x ≤ 9223372036854775807) : wrap64 x = x := by unfold wrap64; omega
theorem rd_mid (pre : List Int) (n : Int) (t : List Int) : rd (pre ++ n :: t) (pre.length : Int) = n := by
  simp [rd]
theorem rd_mid' (pre : List Int) (n : Int) (t : List Int) {i : Int} (hi : i = (pre.length : Int)) : rd (pre ++ n :: t) i = n := by
  subst hi; exact rd_mid pre n t
theorem Ev.pos {α : Type} {c : Prop} [Decidable c] {f g : Nat → Option α} {r : α} (h : c) (k : Ev f r) : Ev (fun n => if c then f n else g n) r := by
  simp only [if_pos h]; exact k
theorem Ev.neg {α : Type} {c : Prop} [Decidable c] {f g : Nat → Option α} {r : α} (h : ¬ c) (k : Ev g r) : Ev (fun n => if c then f n else g n) r := by
  simp only [if_neg h]; exact k
theorem Ev.some {α : Type} {a r : α} (h : a = r) : Ev (fun _ => Option.some a) r := by subst h; exact Ev.now _
/-! ### counters: plain -/
theorem two_pow_le {n : Nat} (hn : n ≤ 40) : (2 : Int) ^ n ≤ 1099511627776 := by
  have h := Nat.pow_le_pow_right (n := 2) (by decide) hn
  have h' : ((2 ^ n : Nat) : Int) ≤ ((2 ^ 40 : Nat) : Int) := Int.ofNat_le.mpr h
  simpa using h'
theorem two_pow_ge {n : Nat} (hn : 4 ≤ n) : (16 : Int) ≤ (2 : Int) ^ n := by
  have h := Nat.pow_le_pow_right (n := 2) (by decide) hn
  have h' : ((2 ^ 4 : Nat) : Int) ≤ ((2 ^ n : Nat) : Int) := Int.ofNat_le.mpr h
  simpa using h'
theorem shl_one {a : Int} (h0 : 4 ≤ a) (h1 : a ≤ 40) : shl .i64 1 a = 2 ^ a.toNat := by
  have h2 := two_pow_le (n := a.toNat) (by omega)
  have h3 := two_pow_ge (n := a.toNat) (by omega)
  unfold shl
  rw [Nat.min_eq_left (by simp only [IntKind.bits]; omega), Int.one_mul]
  generalize (2 : Int) ^ a.toNat = m at *
  rw [IntKind.wrap_i64]
  omega
theorem u64_small {a : Int} (h0 : 0 ≤ a) (h1 : a ≤ 1000) : IntKind.u64.wrap a = a := by
  unfold IntKind.wrap
  simp only [IntKind.bits, IntKind.signed, Bool.false_and]
  simp only [Bool.false_eq_true, if_false]
  omega
def rollGo (m : Int) : Int → List Int → List Int → List Int × Int
  | _, acc, [] => (acc, 0)
  | p, acc, n :: t => if 0 ≤ n ∧ n ≤ 1000000000000 then (if n < p then ([], 8) else rollGo m n (acc ++ [n % m]) t) else ([], 1)
def unrollGo (m : Int) : Int → List Int → List Int → List Int × Int
  | _, acc, [] => (acc, 0)
  | p, acc, n :: t => if 0 ≤ n ∧ n ≤ m - 1 then (if p + (n - p) % m > 1000000000000 then ([], 1) else unrollGo m (p + (n - p) % m) (acc ++ [p + (n - p) % m]) t) else ([], 1)
def rolledS (l : List Int) (a : Int) : List Int × Int := if 4 ≤ a ∧ a ≤ 40 then (if l.length ≤ 5000 then rollGo (2 ^ a.toNat) 0 [] l else ([], 2)) else ([], 1)
def unrolledS (l : List Int) (a : Int) : List Int × Int := if 4 ≤ a ∧ a ≤ 40 then (if l.length ≤ 5000 then unrollGo (2 ^ a.toNat) 0 [] l else ([], 2)) else ([], 1)
def chain : Int → List Int → Prop
  | _, [] => True
  | p, n :: t => 0 ≤ n ∧ n ≤ 1000000000000 ∧ p ≤ n ∧ chain n t
def near (m : Int) : Int → List Int → Prop
  | _, [] => True
  | p, n :: t => n - p < m ∧ near m n t
theorem rollGo_tells (m : Int) : ∀ (l : List Int) (p : Int) (acc : List Int),
    (∃ e, e ≠ 0 ∧ rollGo m p acc l = ([], e)) ∨ (rollGo m p acc l = (acc ++ l.map (· % m), 0) ∧ chain p l)
  | [], p, acc => .inr ⟨by simp [rollGo], trivial⟩
  | n :: t, p, acc => by
    unfold rollGo
    split
    · split
      · exact .inl ⟨8, by decide, rfl⟩
      · rcases rollGo_tells m t n (acc ++ [n % m]) with h | ⟨h, hc⟩
        · exact .inl h
        · rename_i h1 h2; exact .inr ⟨by rw [h]; simp, h1.1, h1.2, by omega, hc⟩
    · exact .inl ⟨1, by decide, rfl⟩
theorem rollGo_chain (m : Int) : ∀ (l : List Int) (p : Int) (acc : List Int), chain p l → rollGo m p acc l = (acc ++ l.map (· % m), 0)
  | [], p, acc, _ => by simp [rollGo]
  | n :: t, p, acc, h => by
    obtain ⟨h0, h1, h2, h3⟩ := h
    unfold rollGo
    rw [if_pos ⟨h0, h1⟩, if_neg (by omega), rollGo_chain m t n _ h3]
    simp
theorem emod_back {m p n : Int} (hm : 0 < m) (hp : 0 ≤ p) (h0 : 0 ≤ n) (h1 : n ≤ m - 1) : (p + (n - p) % m) % m = n := by
  rw [Int.add_emod, Int.emod_emod, ← Int.add_emod]
  rw [show p + (n - p) = n by omega]
  exact Int.emod_eq_of_lt h0 (by omega)
/-- What is unrolled: the reading is the remainder; each one less than a round behind the one before it. -/
theorem unrollGo_tells (m : Int) (hm : 0 < m) : ∀ (l : List Int) (p : Int) (acc : List Int), 0 ≤ p →
    (∃ e, e ≠ 0 ∧ unrollGo m p acc l = ([], e)) ∨ (∃ y, unrollGo m p acc l = (acc ++ y, 0) ∧ chain p y ∧ near m p y ∧ y.map (· % m) = l)
  | [], p, acc, _ => .inr ⟨[], by simp [unrollGo], trivial, trivial, rfl⟩
  | n :: t, p, acc, hp => by
    have h2 := Int.emod_nonneg (n - p) (show m ≠ 0 by omega)
    have h3 := Int.emod_lt_of_pos (n - p) hm
    unfold unrollGo
    split
    · rename_i h
      split
      · exact .inl ⟨1, by decide, rfl⟩
      · rcases unrollGo_tells m hm t (p + (n - p) % m) (acc ++ [p + (n - p) % m]) (by omega) with h' | ⟨y, hy, hc, hn, hmap⟩
        · exact .inl h'
        · refine .inr ⟨(p + (n - p) % m) :: y, by rw [hy]; simp, ⟨by omega, by omega, by omega, hc⟩, ⟨by omega, hn⟩, ?_⟩
          rw [List.map_cons, hmap, emod_back hm hp h.1 h.2]
    · exact .inl ⟨1, by decide, rfl⟩
theorem unrollGo_back (m : Int) (hm : 0 < m) (c : Int) (hc0 : 0 ≤ c) (hcm : c % m = 0) : ∀ (l : List Int) (p : Int) (acc : List Int), c ≤ p → chain p l → near m p l →
    unrollGo m (p - c) acc (l.map (· % m)) = (acc ++ l.map (· - c), 0)
  | [], p, acc, _, _, _ => by simp [unrollGo]
  | n :: t, p, acc, hcp, h, h' => by
    obtain ⟨h0, h1, h2, h3⟩ := h
    obtain ⟨h4, h5⟩ := h'
    have e : (n % m - (p - c)) % m = n - p := by
      rw [show n % m - (p - c) = n % m + (c - p) by omega, Int.add_emod, Int.emod_emod, ← Int.add_emod, show n + (c - p) = (n - p) + c by omega, Int.add_emod, hcm, Int.add_zero, Int.emod_emod]
      exact Int.emod_eq_of_lt (by omega) h4
    have h6 := Int.emod_nonneg n (show m ≠ 0 by omega)
    have h7 := Int.emod_lt_of_pos n hm
    rw [List.map_cons]
    unfold unrollGo
    rw [if_pos ⟨h6, by omega⟩, e, if_neg (by omega), show p - c + (n - p) = n - c by omega, unrollGo_back m hm c hc0 hcm t n _ (by omega) h3 h5]
    simp
theorem tmod_pos {a b : Int} (h : 0 ≤ a) : Int.tmod a b = a % b := Int.tmod_eq_emod_of_nonneg h
theorem tmod_gt (a : Int) {m : Int} (hm : 0 < m) : - m < Int.tmod a m := by
  have h := Int.natAbs_tmod a m
  have h' := Nat.mod_lt a.natAbs (show 0 < m.natAbs by omega)
  omega
/-- The program's own way to the least tick that is not less. -/
theorem unroll_step {m p n : Int} (hm : 0 < m) (hp0 : 0 ≤ p) (hn0 : 0 ≤ n) :
    Int.tmod (Int.tmod (n - p) m + m) m = (n - p) % m := by
  have h1 := Int.tmod_lt_of_pos (n - p) hm
  have h2 := tmod_gt (n - p) hm
  rw [tmod_pos (by omega), Int.add_emod_right]
  have h3 := Int.tmod_add_mul_tdiv (n - p) m
  have h4 : (n - p) % m = (Int.tmod (n - p) m + m * Int.tdiv (n - p) m) % m := by rw [h3]
  rw [h4, Int.add_mul_emod_self_left]
/-! ### counters: what the functions tell -/
theorem In_eq (a lo hi : Int) : kit_In.f a lo hi = some (decide (lo ≤ a ∧ a ≤ hi)) := by
  unfold kit_In.f
  split
  · rename_i h; simp [h]
  · rename_i h; simp [h]
theorem checkBits_eq (n a : Int) : clock_checkBits.f n a = some (if 4 ≤ a ∧ a ≤ 40 then (if n > 5000 then 2 else 0) else 1) := by
  unfold clock_checkBits.f
  rw [In_eq, Option.bind_some]
  by_cases h : 4 ≤ a ∧ a ≤ 40
  · simp only [h, and_self, decide_true, if_true]
    split <;> rfl
  · simp only [decide_eq_false h, Bool.false_eq_true, if_false, if_neg h]
theorem rolled_loop {a m : Int} (h4 : 0 ≤ a) (ha : shl .i64 1 a = m) (hm : 0 < m) (l : List Int) (hl : l.length ≤ 5000) :
    ∀ (t pre acc : List Int) (p : Int), l = pre ++ t → acc.length = pre.length → (pre.length = 0 → p = 0) → (0 < pre.length → rd l ((pre.length : Int) - 1) = p) → 0 ≤ p →
      Ev (fun k => clock_Rolled.l0 k l a acc l l.length pre.length) (rollGo m p acc t)
  | [], pre, acc, p, hp, _, _, _, _ => by
    refine Ev.step (fun k => by rw [clock_Rolled.l0]) ?_
    exact Ev.neg (by rw [hp]; simp) (Ev.some (by rfl))
  | n :: t, pre, acc, p, hp, hacc, h1, h2, h3 => by
    have hlen : pre.length < l.length := by rw [hp]; simp
    have hrd : rd l pre.length = n := by rw [hp]; exact rd_mid ..
    refine Ev.step (fun k => by rw [clock_Rolled.l0]) ?_
    simp only [hrd, In_eq, Option.bind_some, ha, decide_eq_true_eq]
    refine Ev.pos (by omega) (Ev.pos (by omega) (Ev.pos (by omega) ?_))
    unfold rollGo
    by_cases hin : 0 ≤ n ∧ n ≤ 1000000000000
    · rw [if_pos hin]
      have ih := rolled_loop h4 ha hm l hl t (pre ++ [n]) (acc ++ [n % m]) n (by simp [hp]) (by simp [hacc]) (by simp) (fun _ => by rw [← hrd]; congr 1; simp) hin.1
      have hw : wrap64 ((pre.length : Int) + 1) = ((pre ++ [n]).length : Int) := by rw [w64 (by omega) (by omega)]; simp
      refine Ev.pos hin ?_
      by_cases h0 : pre.length = 0
      · refine Ev.neg (by omega) (Ev.pos h4 (Ev.neg (by omega) (Ev.pos (by omega) ?_)))
        rw [if_neg (by have := h1 h0; omega), tmod_pos hin.1, hw]
        exact ih
      · have hw1 : wrap64 ((pre.length : Int) - 1) = (pre.length : Int) - 1 := w64 (by omega) (by omega)
        rw [hw1, h2 (by omega)]
        refine Ev.pos (by omega) (Ev.pos (by omega) (Ev.pos (by omega) ?_))
        by_cases hnp : n < p
        · rw [if_pos hnp]
          exact Ev.pos hnp (Ev.some rfl)
        · rw [if_neg hnp, tmod_pos hin.1, hw]
          exact Ev.neg hnp (Ev.pos h4 (Ev.neg (by omega) (Ev.pos (by omega) ih)))
    · rw [if_neg hin]
      exact Ev.neg hin (Ev.some rfl)
theorem rolled_ev (l : List Int) (a : Int) : Ev (fun k => clock_Rolled.f k l a) (rolledS l a) := by
  unfold clock_Rolled.f rolledS
  simp only [checkBits_eq, Option.bind_some]
  by_cases h : 4 ≤ a ∧ a ≤ 40
  · simp only [if_pos h]
    by_cases h5 : l.length ≤ 5000
    · simp only [if_pos h5, if_neg (show ¬ ((l.length : Int) > 5000) by omega), if_true]
      have hm := two_pow_ge (n := a.toNat) (by omega)
      exact rolled_loop (by omega) (shl_one h.1 h.2) (by omega) l h5 l [] [] 0 rfl rfl (fun _ => rfl) (fun h => by simp at h) (by omega)
    · simp only [if_neg h5, if_pos (show (l.length : Int) > 5000 by omega)]
      exact Ev.neg (by decide) (Ev.some rfl)
  · simp only [if_neg h]
    exact Ev.neg (by decide) (Ev.some rfl)
theorem unrolled_loop {m : Int} (hm : 16 ≤ m) (hm1 : m ≤ 1099511627776) (l : List Int) (hl : l.length ≤ 5000) :
    ∀ (t pre acc : List Int) (p : Int), l = pre ++ t → acc.length = pre.length → 0 ≤ p → p ≤ 1000000000000 →
      Ev (fun k => clock_Unrolled.l0 k m acc p l l.length pre.length) (unrollGo m p acc t)
  | [], pre, acc, p, hp, _, _, _ => by
    refine Ev.step (fun k => by rw [clock_Unrolled.l0]) ?_
    exact Ev.neg (by rw [hp]; simp) (Ev.some (by rfl))
  | n :: t, pre, acc, p, hp, hacc, h1, h2 => by
    have hlen : pre.length < l.length := by rw [hp]; simp
    have hrd : rd l pre.length = n := by rw [hp]; exact rd_mid ..
    refine Ev.step (fun k => by rw [clock_Unrolled.l0]) ?_
    simp only [hrd, In_eq, Option.bind_some, decide_eq_true_eq, w64 (show -9223372036854775808 ≤ m - 1 by omega) (by omega)]
    refine Ev.pos (by omega) (Ev.pos (by omega) (Ev.pos (by omega) ?_))
    unfold unrollGo
    by_cases hin : 0 ≤ n ∧ n ≤ m - 1
    · rw [if_pos hin]
      have hw : wrap64 ((pre.length : Int) + 1) = ((pre ++ [n]).length : Int) := by rw [w64 (by omega) (by omega)]; simp
      have h6 := Int.tmod_lt_of_pos (n - p) (show 0 < m by omega)
      have h7 := tmod_gt (n - p) (show 0 < m by omega)
      have h8 := Int.emod_nonneg (n - p) (show m ≠ 0 by omega)
      have h9 := Int.emod_lt_of_pos (n - p) (show 0 < m by omega)
      have e := unroll_step (show 0 < m by omega) h1 hin.1
      have e1 : wrap64 (n - p) = n - p := w64 (by omega) (by omega)
      have e2 : wrap64 (Int.tmod (n - p) m + m) = Int.tmod (n - p) m + m := w64 (by omega) (by omega)
      have e3 : wrap64 (p + (n - p) % m) = p + (n - p) % m := w64 (by omega) (by omega)
      rw [e1, e2, e, e3]
      refine Ev.pos hin (Ev.neg (by omega) ?_)
      by_cases hb : p + (n - p) % m > 1000000000000
      · rw [if_pos hb]
        exact Ev.pos hb (Ev.some rfl)
      · rw [if_neg hb, hw]
        exact Ev.neg hb (Ev.pos (by omega) (unrolled_loop hm hm1 l hl t (pre ++ [n]) _ _ (by simp [hp]) (by simp [hacc]) (by omega) (by omega)))
    · rw [if_neg hin]
      exact Ev.neg hin (Ev.some rfl)
theorem unrolled_ev (l : List Int) (a : Int) : Ev (fun k => clock_Unrolled.f k l a) (unrolledS l a) := by
  unfold clock_Unrolled.f unrolledS
  simp only [checkBits_eq, Option.bind_some]
  by_cases h : 4 ≤ a ∧ a ≤ 40
  · simp only [if_pos h]
    by_cases h5 : l.length ≤ 5000
    · simp only [if_pos h5, if_neg (show ¬ ((l.length : Int) > 5000) by omega), if_true]
      have hm := two_pow_ge (n := a.toNat) (by omega)
      have hm1 := two_pow_le (n := a.toNat) (by omega)
      rw [shl_one h.1 h.2]
      exact Ev.pos (by omega) (unrolled_loop hm hm1 l h5 l [] [] 0 rfl rfl (by omega) (by omega))
    · simp only [if_neg h5, if_pos (show (l.length : Int) > 5000 by omega)]
      exact Ev.neg (by decide) (Ev.some rfl)
  · simp only [if_neg h]
    exact Ev.neg (by decide) (Ev.some rfl)
theorem awake_ev : Ev (fun k => perigeelaw2_awake.f k) true := Ev.of perigeelaw2_awake.mono (k := 5) (by decide +kernel)
/-! ### counters: the reference -/
theorem within_eq (a lo hi : Int) : perigeeref2_within.f a lo hi = some (decide (lo ≤ a ∧ a ≤ hi)) := by
  unfold perigeeref2_within.f
  split
  · rename_i h; simp [h]
  · rename_i h; simp only [Option.some.injEq, Bool.false_eq, decide_eq_false_iff_not]; omega
theorem ref_rolled_loop {a m : Int} (h4 : 0 ≤ a) (h40 : a ≤ 40) (ha : shl .i64 1 a = m) (hm : 0 < m) (l : List Int) (hl : l.length ≤ 5000) :
    ∀ (t pre acc : List Int) (p : Int), l = pre ++ t → acc.length = pre.length → (pre.length = 0 → p = 0) → (0 < pre.length → rd l ((pre.length : Int) - 1) = p) → 0 ≤ p →
      Ev (fun k => perigeeref2_Rolled.l0 k l a acc pre.length) (rollGo m p acc t)
  | [], pre, acc, p, hp, _, _, _, _ => by
    refine Ev.step (fun k => by rw [perigeeref2_Rolled.l0]) ?_
    exact Ev.neg (by rw [hp]; simp) (Ev.some (by rfl))
  | n :: t, pre, acc, p, hp, hacc, h1, h2, h3 => by
    have hlen : pre.length < l.length := by rw [hp]; simp
    have hrd : rd l pre.length = n := by rw [hp]; exact rd_mid ..
    refine Ev.step (fun k => by rw [perigeeref2_Rolled.l0]) ?_
    simp only [hrd, within_eq, Option.bind_some, u64_small h4 (by omega), ha, decide_eq_true_eq]
    refine Ev.pos (by omega) (Ev.pos (by omega) ?_)
    unfold rollGo
    by_cases hin : 0 ≤ n ∧ n ≤ 1000000000000
    · rw [if_pos hin]
      have ih := ref_rolled_loop h4 h40 ha hm l hl t (pre ++ [n]) (acc ++ [n % m]) n (by simp [hp]) (by simp [hacc]) (by simp) (fun _ => by rw [← hrd]; congr 1; simp) hin.1
      have hw : wrap64 ((pre.length : Int) + 1) = ((pre ++ [n]).length : Int) := by rw [w64 (by omega) (by omega)]; simp
      refine Ev.pos hin ?_
      by_cases h0 : pre.length = 0
      · refine Ev.neg (by omega) (Ev.pos h4 (Ev.neg (by omega) (Ev.pos (by omega) ?_)))
        rw [if_neg (by have := h1 h0; omega), tmod_pos hin.1, hw]
        exact ih
      · have hw1 : wrap64 ((pre.length : Int) - 1) = (pre.length : Int) - 1 := w64 (by omega) (by omega)
        rw [hw1, h2 (by omega)]
        refine Ev.pos (by omega) (Ev.pos (by omega) (Ev.pos (by omega) ?_))
        by_cases hnp : n < p
        · rw [if_pos hnp]
          exact Ev.pos hnp (Ev.some rfl)
        · rw [if_neg hnp, tmod_pos hin.1, hw]
          exact Ev.neg hnp (Ev.pos h4 (Ev.neg (by omega) (Ev.pos (by omega) ih)))
    · rw [if_neg hin]
      exact Ev.neg hin (Ev.some rfl)
theorem ref_rolled_ev (l : List Int) (a : Int) : Ev (fun k => perigeeref2_Rolled.f k l a) (rolledS l a) := by
  unfold perigeeref2_Rolled.f rolledS
  simp only [within_eq, Option.bind_some, decide_eq_true_eq]
  by_cases h : 4 ≤ a ∧ a ≤ 40
  · simp only [if_pos h]
    by_cases h5 : l.length ≤ 5000
    · simp only [if_pos h5, if_neg (show ¬ ((l.length : Int) > 5000) by omega)]
      have hm := two_pow_ge (n := a.toNat) (by omega)
      exact ref_rolled_loop (by omega) (by omega) (shl_one h.1 h.2) (by omega) l h5 l [] [] 0 rfl rfl (fun _ => rfl) (fun h => by simp at h) (by omega)
    · simp only [if_neg h5, if_pos (show (l.length : Int) > 5000 by omega)]
      exact Ev.now _
  · simp only [if_neg h]
    exact Ev.now _
theorem ref_unrolled_loop {m : Int} (hm : 16 ≤ m) (hm1 : m ≤ 1099511627776) (l : List Int) (hl : l.length ≤ 5000) :
    ∀ (t pre acc : List Int) (p : Int), l = pre ++ t → acc.length = pre.length → (pre.length = 0 → p = 0) → (0 < pre.length → rd acc ((pre.length : Int) - 1) = p) → 0 ≤ p → p ≤ 1000000000000 →
      Ev (fun k => perigeeref2_Unrolled.l0 k l m acc pre.length) (unrollGo m p acc t)
  | [], pre, acc, p, hp, _, _, _, _, _ => by
    refine Ev.step (fun k => by rw [perigeeref2_Unrolled.l0]) ?_
    exact Ev.neg (by rw [hp]; simp) (Ev.some (by rfl))
  | n :: t, pre, acc, p, hp, hacc, hz, hs, h1, h2 => by
    have hlen : pre.length < l.length := by rw [hp]; simp
    have hrd : rd l pre.length = n := by rw [hp]; exact rd_mid ..
    refine Ev.step (fun k => by rw [perigeeref2_Unrolled.l0]) ?_
    simp only [hrd, within_eq, Option.bind_some, decide_eq_true_eq, w64 (show -9223372036854775808 ≤ m - 1 by omega) (by omega)]
    refine Ev.pos (by omega) (Ev.pos (by omega) ?_)
    unfold unrollGo
    by_cases hin : 0 ≤ n ∧ n ≤ m - 1
    · rw [if_pos hin]
      have hw : wrap64 ((pre.length : Int) + 1) = ((pre ++ [n]).length : Int) := by rw [w64 (by omega) (by omega)]; simp
      have h6 := Int.emod_nonneg p (show m ≠ 0 by omega)
      have h7 := Int.emod_lt_of_pos p (show 0 < m by omega)
      have h8 := Int.emod_nonneg (n - p) (show m ≠ 0 by omega)
      have h9 := Int.emod_lt_of_pos (n - p) (show 0 < m by omega)
      refine Ev.pos hin ?_
      have ih : ∀ q, q = p + (n - p) % m → q ≤ 1000000000000 → Ev (fun k => perigeeref2_Unrolled.l0 k l m (acc ++ [q]) ((pre ++ [n]).length : Int)) (unrollGo m q (acc ++ [q]) t) := by
        intro q hq hq1
        refine ref_unrolled_loop hm hm1 l hl t (pre ++ [n]) (acc ++ [q]) q (by simp [hp]) (by simp [hacc]) (by simp) (fun _ => ?_) (by omega) (by omega)
        exact rd_mid' _ _ _ (by simp [hacc])
      by_cases h0 : pre.length = 0
      · have hp0 : p = 0 := hz h0
        have e : p + (n - p) % m = n := by rw [hp0, Int.sub_zero, Int.zero_add, Int.emod_eq_of_lt hin.1 (by omega)]
        refine Ev.neg (by omega) ?_
        by_cases hb : p + (n - p) % m > 1000000000000
        · rw [if_pos hb]
          exact Ev.pos (by omega) (Ev.some rfl)
        · rw [if_neg hb, hw]
          have := ih _ rfl (by omega)
          rw [e] at this ⊢
          exact Ev.neg (by omega) (Ev.pos (by omega) this)
      · have hw1 : wrap64 ((pre.length : Int) - 1) = (pre.length : Int) - 1 := w64 (by omega) (by omega)
        have e : Int.tmod (n - p % m + m) m = (n - p) % m := by
          rw [tmod_pos (by omega), Int.add_emod_right, Int.sub_emod, Int.emod_emod, ← Int.sub_emod]
        rw [hw1, hs (by omega), tmod_pos h1]
        rw [w64 (show -9223372036854775808 ≤ n - p % m by omega) (by omega), w64 (show -9223372036854775808 ≤ n - p % m + m by omega) (by omega), e, w64 (show -9223372036854775808 ≤ p + (n - p) % m by omega) (by omega)]
        refine Ev.pos (by omega) (Ev.pos (by omega) (Ev.pos (by omega) (Ev.neg (by omega) ?_)))
        by_cases hb : p + (n - p) % m > 1000000000000
        · rw [if_pos hb]
          exact Ev.pos hb (Ev.some rfl)
        · rw [if_neg hb, hw]
          exact Ev.neg hb (Ev.pos (by omega) (ih _ rfl (by omega)))
    · rw [if_neg hin]
      exact Ev.neg hin (Ev.some rfl)
theorem ref_unrolled_ev (l : List Int) (a : Int) : Ev (fun k => perigeeref2_Unrolled.f k l a) (unrolledS l a) := by
  unfold perigeeref2_Unrolled.f unrolledS
  simp only [within_eq, Option.bind_some, decide_eq_true_eq]
  by_cases h : 4 ≤ a ∧ a ≤ 40
  · simp only [if_pos h]
    by_cases h5 : l.length ≤ 5000
    · simp only [if_pos h5, if_neg (show ¬ ((l.length : Int) > 5000) by omega)]
      have hm := two_pow_ge (n := a.toNat) (by omega)
      have hm1 := two_pow_le (n := a.toNat) (by omega)
      rw [u64_small (show 0 ≤ a by omega) (by omega), shl_one h.1 h.2]
      exact Ev.pos (by omega) (ref_unrolled_loop hm hm1 l h5 l [] [] 0 rfl rfl (fun _ => rfl) (fun h => by simp at h) (by omega) (by omega))
    · simp only [if_neg h5, if_pos (show (l.length : Int) > 5000 by omega)]
      exact Ev.now _
  · simp only [if_neg h]
    exact Ev.now _
/-! ### slices.Equal of whole numbers -/
theorem equal_loop (x y : List Int) (hx : x.length ≤ 17592186044416) (hxy : x.length = y.length) :
    ∀ (s t pre qre : List Int), x = pre ++ s → y = qre ++ t → pre.length = qre.length →
      Ev (fun k => slices_Equal_int_int.l0 k x y x.length pre.length) (decide (s = t))
  | [], t, pre, qre, hp, hq, h => by
    have ht : t = [] := by
      have := hxy; rw [hp, hq] at this
      simp only [List.length_append, List.length_nil] at this
      exact List.eq_nil_of_length_eq_zero (by omega)
    refine Ev.step (fun k => by rw [slices_Equal_int_int.l0]) ?_
    exact Ev.neg (by rw [hp]; simp) (Ev.some (by rw [ht]; rfl))
  | m :: s, [], pre, qre, hp, hq, h => by
    have := hxy; rw [hp, hq] at this
    simp only [List.length_append, List.length_nil, List.length_cons] at this
    omega
  | m :: s, n :: t, pre, qre, hp, hq, h => by
    have hlen : pre.length < x.length := by rw [hp]; simp
    have hrd : rd x pre.length = m := by rw [hp]; exact rd_mid ..
    have hrd' : rd y pre.length = n := by rw [hq]; exact rd_mid' _ _ _ (by omega)
    refine Ev.step (fun k => by rw [slices_Equal_int_int.l0]) ?_
    simp only [hrd, hrd']
    refine Ev.pos (by omega) (Ev.pos (by omega) (Ev.pos (by omega) (Ev.pos (by omega) ?_)))
    by_cases e : m = n
    · have hw : wrap64 ((pre.length : Int) + 1) = ((pre ++ [m]).length : Int) := by rw [w64 (by omega) (by omega)]; simp
      rw [hw]
      refine Ev.pos e ?_
      have := equal_loop x y hx hxy s t (pre ++ [m]) (qre ++ [n]) (by simp [hp]) (by simp [hq]) (by simp [h])
      rw [show decide (m :: s = n :: t) = decide (s = t) by simp [e]]
      exact this
    · refine Ev.neg e (Ev.some ?_)
      simp [e]
theorem equal_ev (x y : List Int) (hx : x.length ≤ 17592186044416) : Ev (fun k => slices_Equal_int_int.f k x y) (decide (x = y)) := by
  unfold slices_Equal_int_int.f
  by_cases h : x.length = y.length
  · refine Ev.pos (by omega) ?_
    exact equal_loop x y hx h x y [] [] rfl rfl rfl
  · refine Ev.neg (by omega) (Ev.some ?_)
    simp only [Bool.false_eq, decide_eq_false_iff_not]
    rintro rfl
    exact h rfl
/-! ### the law -/
theorem rollGo_len (m : Int) : ∀ (l : List Int) (p : Int) (acc : List Int), (rollGo m p acc l).1.length ≤ acc.length + l.length
  | [], p, acc => by simp [rollGo]
  | n :: t, p, acc => by
    unfold rollGo
    split
    · split
      · simp
      · have := rollGo_len m t n (acc ++ [n % m]); simp at this ⊢; omega
    · simp
theorem unrollGo_len (m : Int) : ∀ (l : List Int) (p : Int) (acc : List Int), (unrollGo m p acc l).1.length ≤ acc.length + l.length
  | [], p, acc => by simp [unrollGo]
  | n :: t, p, acc => by
    unfold unrollGo
    split
    · split
      · simp
      · have := unrollGo_len m t (p + (n - p) % m) (acc ++ [p + (n - p) % m]); simp at this ⊢; omega
    · simp
theorem rolledS_len (l : List Int) (a : Int) : (rolledS l a).1.length ≤ 5000 := by
  unfold rolledS
  split
  · split
    · have := rollGo_len (2 ^ a.toNat) l 0 []; simp at this; omega
    · simp
  · simp
theorem unrolledS_len (l : List Int) (a : Int) : (unrolledS l a).1.length ≤ 5000 := by
  unfold unrolledS
  split
  · split
    · have := unrollGo_len (2 ^ a.toNat) l 0 []; simp at this; omega
    · simp
  · simp
theorem CountersMatchSpec : perigeelaw2_CountersMatchSpec.Pure := by
  intro l l' a _ _ _ _ _ _ _
  refine Ev.rounds (g := fun k => perigeelaw2_CountersMatchSpec.f k l l' a) ?_
  unfold perigeelaw2_CountersMatchSpec.f
  refine Ev.bind (unrolled_ev l a) (Ev.bind (ref_unrolled_ev l a) (Ev.bind (rolled_ev l' a) (Ev.bind (ref_rolled_ev l' a) ?_)))
  have h1 := unrolledS_len l a
  have h2 := rolledS_len l' a
  refine Ev.bind (equal_ev _ _ (by omega)) ?_
  refine Ev.pos (by simp) (Ev.pos rfl ?_)
  refine Ev.bind (equal_ev _ _ (by omega)) ?_
  exact Ev.pos (by simp) (Ev.pos rfl (Ev.bind awake_ev (Ev.now _)))

end Go.Proofs.Ytjbchhabdlbflaa.Pure
