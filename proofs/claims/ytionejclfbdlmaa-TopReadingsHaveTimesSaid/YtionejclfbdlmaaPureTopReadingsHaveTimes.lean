/- Readings of a counter that goes around have times that never fall, and are those of the ticks, if these began in the first round and are less than a round behind one another; no condition. -/
import Derived.Laws.BitsAllLaws
import Derived.Test.YtionejclfbdlmaaQTopReadingsHaveTimesx5
import Derived.Test.YtionejclfbdlmaaWSized
set_option linter.unusedVariables false
set_option linter.unusedSimpArgs false
/-- The printed row names this lemma without the seat's own words' namespace. -/
abbrev Go.Proofs.Ytionejclfbdlmaa.PrintWords.sized_ints := @Go.Proofs.YtionejclfbdlmaaW.PrintWords.sized_ints
namespace Go.Proofs.Ytionejclfbdlmaa.Pure
open Go.RowKit Go.Proofs.Ytionejclfbdlmaa.QTopReadingsHaveTimes Go.Proofs.YtionejclfbdlmaaW.PrintWords Go.Proofs.YtionejclfbdlmaaW.PrintLast Go.Proofs.YtionejclfbdlmaaW.PrintMore

theorem w64 {x : Int} (h0 : -9223372036854775808 ≤ x) (h1 : x ≤ 9223372036854775807) : wrap64 x = x := by unfold wrap64; omega
theorem rd_mid (pre : List Int) (n : Int) (t : List Int) : rd (pre ++ n :: t) (pre.length : Int) = n := by
  simp [rd]
theorem rd_mid' (pre : List Int) (n : Int) (t : List Int) {i : Int} (hi : i = (pre.length : Int)) : rd (pre ++ n :: t) i = n := by
  subst hi; exact rd_mid pre n t
theorem Ev.pos {α : Type} {c : Prop} [Decidable c] {f g : Nat → Option α} {r : α} (h : c) (k : Ev f r) : Ev (fun n => if c then f n else g n) r := by
  simp only [if_pos h]; exact k
theorem Ev.neg {α : Type} {c : Prop} [Decidable c] {f g : Nat → Option α} {r : α} (h : ¬ c) (k : Ev g r) : Ev (fun n => if c then f n else g n) r := by
  simp only [if_neg h]; exact k
theorem Ev.some {α : Type} {a r : α} (h : a = r) : Ev (fun _ => Option.some a) r := by subst h; exact Ev.now _
theorem two_pow_le {n : Nat} (hn : n ≤ 40) : (2 : Int) ^ n ≤ 1099511627776 := by
  have h := Nat.pow_le_pow_right (n := 2) (by decide) hn
  have h' : ((2 ^ n : Nat) : Int) ≤ ((2 ^ 40 : Nat) : Int) := Int.ofNat_le.mpr h
  simpa using h'
theorem two_pow_ge {n : Nat} (hn : 4 ≤ n) : (16 : Int) ≤ (2 : Int) ^ n := by
  have h := Nat.pow_le_pow_right (n := 2) (by decide) hn
  have h' : ((2 ^ 4 : Nat) : Int) ≤ ((2 ^ n : Nat) : Int) := Int.ofNat_le.mpr h
  simpa using h'
theorem shl_one {a : Int} (h0 : 4 ≤ a) (h1 : a ≤ 40) : shl .i64 1 a = 2 ^ a.toNat := by
  have h2 := two_pow_le (n := a.toNat) (by omega)
  have h3 := two_pow_ge (n := a.toNat) (by omega)
  unfold shl
  rw [Nat.min_eq_left (by simp only [IntKind.bits]; omega), Int.one_mul]
  generalize (2 : Int) ^ a.toNat = m at *
  rw [IntKind.wrap_i64]
  omega
theorem u64_small {a : Int} (h0 : 0 ≤ a) (h1 : a ≤ 1000) : IntKind.u64.wrap a = a := by
  unfold IntKind.wrap
  simp only [IntKind.bits, IntKind.signed, Bool.false_and]
  simp only [Bool.false_eq_true, if_false]
  omega
def rollGo (m : Int) : Int → List Int → List Int → List Int × Int
  | _, acc, [] => (acc, 0)
  | p, acc, n :: t => if 0 ≤ n ∧ n ≤ 1000000000000 then (if n < p then ([], 8) else rollGo m n (acc ++ [n % m]) t) else ([], 1)
def unrollGo (m : Int) : Int → List Int → List Int → List Int × Int
  | _, acc, [] => (acc, 0)
  | p, acc, n :: t => if 0 ≤ n ∧ n ≤ m - 1 then (if p + (n - p) % m > 1000000000000 then ([], 1) else unrollGo m (p + (n - p) % m) (acc ++ [p + (n - p) % m]) t) else ([], 1)
def rolledS (l : List Int) (a : Int) : List Int × Int := if 4 ≤ a ∧ a ≤ 40 then (if l.length ≤ 5000 then rollGo (2 ^ a.toNat) 0 [] l else ([], 2)) else ([], 1)
def unrolledS (l : List Int) (a : Int) : List Int × Int := if 4 ≤ a ∧ a ≤ 40 then (if l.length ≤ 5000 then unrollGo (2 ^ a.toNat) 0 [] l else ([], 2)) else ([], 1)
def chain : Int → List Int → Prop
  | _, [] => True
  | p, n :: t => 0 ≤ n ∧ n ≤ 1000000000000 ∧ p ≤ n ∧ chain n t
def near (m : Int) : Int → List Int → Prop
  | _, [] => True
  | p, n :: t => n - p < m ∧ near m n t
theorem rollGo_tells (m : Int) : ∀ (l : List Int) (p : Int) (acc : List Int),
    (∃ e, e ≠ 0 ∧ rollGo m p acc l = ([], e)) ∨ (rollGo m p acc l = (acc ++ l.map (· % m), 0) ∧ chain p l)
  | [], p, acc => .inr ⟨by simp [rollGo], trivial⟩
  | n :: t, p, acc => by
    unfold rollGo
    split
    · split
      · exact .inl ⟨8, by decide, rfl⟩
      · rcases rollGo_tells m t n (acc ++ [n % m]) with h | ⟨h, hc⟩
        · exact .inl h
        · rename_i h1 h2; exact .inr ⟨by rw [h]; simp, h1.1, h1.2, by omega, hc⟩
    · exact .inl ⟨1, by decide, rfl⟩
theorem emod_back {m p n : Int} (hm : 0 < m) (hp : 0 ≤ p) (h0 : 0 ≤ n) (h1 : n ≤ m - 1) : (p + (n - p) % m) % m = n := by
  rw [Int.add_emod, Int.emod_emod, ← Int.add_emod]
  rw [show p + (n - p) = n by omega]
  exact Int.emod_eq_of_lt h0 (by omega)
/-- What is unrolled: the reading is the remainder; each one less than a round behind the one before it. -/
theorem unrollGo_tells (m : Int) (hm : 0 < m) : ∀ (l : List Int) (p : Int) (acc : List Int), 0 ≤ p →
    (∃ e, e ≠ 0 ∧ unrollGo m p acc l = ([], e)) ∨ (∃ y, unrollGo m p acc l = (acc ++ y, 0) ∧ chain p y ∧ near m p y ∧ y.map (· % m) = l)
  | [], p, acc, _ => .inr ⟨[], by simp [unrollGo], trivial, trivial, rfl⟩
  | n :: t, p, acc, hp => by
    have h2 := Int.emod_nonneg (n - p) (show m ≠ 0 by omega)
    have h3 := Int.emod_lt_of_pos (n - p) hm
    unfold unrollGo
    split
    · rename_i h
      split
      · exact .inl ⟨1, by decide, rfl⟩
      · rcases unrollGo_tells m hm t (p + (n - p) % m) (acc ++ [p + (n - p) % m]) (by omega) with h' | ⟨y, hy, hc, hn, hmap⟩
        · exact .inl h'
        · refine .inr ⟨(p + (n - p) % m) :: y, by rw [hy]; simp, ⟨by omega, by omega, by omega, hc⟩, ⟨by omega, hn⟩, ?_⟩
          rw [List.map_cons, hmap, emod_back hm hp h.1 h.2]
    · exact .inl ⟨1, by decide, rfl⟩
theorem unrollGo_back (m : Int) (hm : 0 < m) (c : Int) (hc0 : 0 ≤ c) (hcm : c % m = 0) : ∀ (l : List Int) (p : Int) (acc : List Int), c ≤ p → chain p l → near m p l →
    unrollGo m (p - c) acc (l.map (· % m)) = (acc ++ l.map (· - c), 0)
  | [], p, acc, _, _, _ => by simp [unrollGo]
  | n :: t, p, acc, hcp, h, h' => by
    obtain ⟨h0, h1, h2, h3⟩ := h
    obtain ⟨h4, h5⟩ := h'
    have e : (n % m - (p - c)) % m = n - p := by
      rw [show n % m - (p - c) = n % m + (c - p) by omega, Int.add_emod, Int.emod_emod, ← Int.add_emod, show n + (c - p) = (n - p) + c by omega, Int.add_emod, hcm, Int.add_zero, Int.emod_emod]
      exact Int.emod_eq_of_lt (by omega) h4
    have h6 := Int.emod_nonneg n (show m ≠ 0 by omega)
    have h7 := Int.emod_lt_of_pos n hm
    rw [List.map_cons]
    unfold unrollGo
    rw [if_pos ⟨h6, by omega⟩, e, if_neg (by omega), show p - c + (n - p) = n - c by omega, unrollGo_back m hm c hc0 hcm t n _ (by omega) h3 h5]
    simp
theorem tmod_pos {a b : Int} (h : 0 ≤ a) : Int.tmod a b = a % b := Int.tmod_eq_emod_of_nonneg h
theorem tmod_gt (a : Int) {m : Int} (hm : 0 < m) : - m < Int.tmod a m := by
  have h := Int.natAbs_tmod a m
  have h' := Nat.mod_lt a.natAbs (show 0 < m.natAbs by omega)
  omega
/-- The program's own way to the least tick that is not less. -/
theorem unroll_step {m p n : Int} (hm : 0 < m) (hp0 : 0 ≤ p) (hn0 : 0 ≤ n) :
    Int.tmod (Int.tmod (n - p) m + m) m = (n - p) % m := by
  have h1 := Int.tmod_lt_of_pos (n - p) hm
  have h2 := tmod_gt (n - p) hm
  rw [tmod_pos (by omega), Int.add_emod_right]
  have h3 := Int.tmod_add_mul_tdiv (n - p) m
  have h4 : (n - p) % m = (Int.tmod (n - p) m + m * Int.tdiv (n - p) m) % m := by rw [h3]
  rw [h4, Int.add_mul_emod_self_left]
theorem In_eq (a lo hi : Int) : kit_In.f a lo hi = some (decide (lo ≤ a ∧ a ≤ hi)) := by
  unfold kit_In.f
  split
  · rename_i h; simp [h]
  · rename_i h; simp [h]
theorem checkBits_eq (n a : Int) : clock_checkBits.f n a = some (if 4 ≤ a ∧ a ≤ 40 then (if n > 5000 then 2 else 0) else 1) := by
  unfold clock_checkBits.f
  rw [In_eq, Option.bind_some]
  by_cases h : 4 ≤ a ∧ a ≤ 40
  · simp only [h, and_self, decide_true, if_true]
    split <;> rfl
  · simp only [decide_eq_false h, Bool.false_eq_true, if_false, if_neg h]
theorem rolled_loop {a m : Int} (h4 : 0 ≤ a) (ha : shl .i64 1 a = m) (hm : 0 < m) (l : List Int) (hl : l.length ≤ 5000) :
    ∀ (t pre acc : List Int) (p : Int), l = pre ++ t → acc.length = pre.length → (pre.length = 0 → p = 0) → (0 < pre.length → rd l ((pre.length : Int) - 1) = p) → 0 ≤ p →
      Ev (fun k => clock_Rolled.l0 k l a acc l l.length pre.length) (rollGo m p acc t)
  | [], pre, acc, p, hp, _, _, _, _ => by
    refine Ev.step (fun k => by rw [clock_Rolled.l0]) ?_
    exact Ev.neg (by rw [hp]; simp) (Ev.some (by rfl))
  | n :: t, pre, acc, p, hp, hacc, h1, h2, h3 => by
    have hlen : pre.length < l.length := by rw [hp]; simp
    have hrd : rd l pre.length = n := by rw [hp]; exact rd_mid ..
    refine Ev.step (fun k => by rw [clock_Rolled.l0]) ?_
    simp only [hrd, In_eq, Option.bind_some, ha, decide_eq_true_eq]
    refine Ev.pos (by omega) (Ev.pos (by omega) (Ev.pos (by omega) ?_))
    unfold rollGo
    by_cases hin : 0 ≤ n ∧ n ≤ 1000000000000
    · rw [if_pos hin]
      have ih := rolled_loop h4 ha hm l hl t (pre ++ [n]) (acc ++ [n % m]) n (by simp [hp]) (by simp [hacc]) (by simp) (fun _ => by rw [← hrd]; congr 1; simp) hin.1
      have hw : wrap64 ((pre.length : Int) + 1) = ((pre ++ [n]).length : Int) := by rw [w64 (by omega) (by omega)]; simp
      refine Ev.pos hin ?_
      by_cases h0 : pre.length = 0
      · refine Ev.neg (by omega) (Ev.pos h4 (Ev.neg (by omega) (Ev.pos (by omega) ?_)))
        rw [if_neg (by have := h1 h0; omega), tmod_pos hin.1, hw]
        exact ih
      · have hw1 : wrap64 ((pre.length : Int) - 1) = (pre.length : Int) - 1 := w64 (by omega) (by omega)
        rw [hw1, h2 (by omega)]
        refine Ev.pos (by omega) (Ev.pos (by omega) (Ev.pos (by omega) ?_))
        by_cases hnp : n < p
        · rw [if_pos hnp]
          exact Ev.pos hnp (Ev.some rfl)
        · rw [if_neg hnp, tmod_pos hin.1, hw]
          exact Ev.neg hnp (Ev.pos h4 (Ev.neg (by omega) (Ev.pos (by omega) ih)))
    · rw [if_neg hin]
      exact Ev.neg hin (Ev.some rfl)
theorem rolled_ev (l : List Int) (a : Int) : Ev (fun k => clock_Rolled.f k l a) (rolledS l a) := by
  unfold clock_Rolled.f rolledS
  simp only [checkBits_eq, Option.bind_some]
  by_cases h : 4 ≤ a ∧ a ≤ 40
  · simp only [if_pos h]
    by_cases h5 : l.length ≤ 5000
    · simp only [if_pos h5, if_neg (show ¬ ((l.length : Int) > 5000) by omega), if_true]
      have hm := two_pow_ge (n := a.toNat) (by omega)
      exact rolled_loop (by omega) (shl_one h.1 h.2) (by omega) l h5 l [] [] 0 rfl rfl (fun _ => rfl) (fun h => by simp at h) (by omega)
    · simp only [if_neg h5, if_pos (show (l.length : Int) > 5000 by omega)]
      exact Ev.neg (by decide) (Ev.some rfl)
  · simp only [if_neg h]
    exact Ev.neg (by decide) (Ev.some rfl)
theorem unrolled_loop {m : Int} (hm : 16 ≤ m) (hm1 : m ≤ 1099511627776) (l : List Int) (hl : l.length ≤ 5000) :
    ∀ (t pre acc : List Int) (p : Int), l = pre ++ t → acc.length = pre.length → 0 ≤ p → p ≤ 1000000000000 →
      Ev (fun k => clock_Unrolled.l0 k m acc p l l.length pre.length) (unrollGo m p acc t)
  | [], pre, acc, p, hp, _, _, _ => by
    refine Ev.step (fun k => by rw [clock_Unrolled.l0]) ?_
    exact Ev.neg (by rw [hp]; simp) (Ev.some (by rfl))
  | n :: t, pre, acc, p, hp, hacc, h1, h2 => by
    have hlen : pre.length < l.length := by rw [hp]; simp
    have hrd : rd l pre.length = n := by rw [hp]; exact rd_mid ..
    refine Ev.step (fun k => by rw [clock_Unrolled.l0]) ?_
    simp only [hrd, In_eq, Option.bind_some, decide_eq_true_eq, w64 (show -9223372036854775808 ≤ m - 1 by omega) (by omega)]
    refine Ev.pos (by omega) (Ev.pos (by omega) (Ev.pos (by omega) ?_))
    unfold unrollGo
    by_cases hin : 0 ≤ n ∧ n ≤ m - 1
    · rw [if_pos hin]
      have hw : wrap64 ((pre.length : Int) + 1) = ((pre ++ [n]).length : Int) := by rw [w64 (by omega) (by omega)]; simp
      have h6 := Int.tmod_lt_of_pos (n - p) (show 0 < m by omega)
      have h7 := tmod_gt (n - p) (show 0 < m by omega)
      have h8 := Int.emod_nonneg (n - p) (show m ≠ 0 by omega)
      have h9 := Int.emod_lt_of_pos (n - p) (show 0 < m by omega)
      have e := unroll_step (show 0 < m by omega) h1 hin.1
      have e1 : wrap64 (n - p) = n - p := w64 (by omega) (by omega)
      have e2 : wrap64 (Int.tmod (n - p) m + m) = Int.tmod (n - p) m + m := w64 (by omega) (by omega)
      have e3 : wrap64 (p + (n - p) % m) = p + (n - p) % m := w64 (by omega) (by omega)
      rw [e1, e2, e, e3]
      refine Ev.pos hin (Ev.neg (by omega) ?_)
      by_cases hb : p + (n - p) % m > 1000000000000
      · rw [if_pos hb]
        exact Ev.pos hb (Ev.some rfl)
      · rw [if_neg hb, hw]
        exact Ev.neg hb (Ev.pos (by omega) (unrolled_loop hm hm1 l hl t (pre ++ [n]) _ _ (by simp [hp]) (by simp [hacc]) (by omega) (by omega)))
    · rw [if_neg hin]
      exact Ev.neg hin (Ev.some rfl)
theorem unrolled_ev (l : List Int) (a : Int) : Ev (fun k => clock_Unrolled.f k l a) (unrolledS l a) := by
  unfold clock_Unrolled.f unrolledS
  simp only [checkBits_eq, Option.bind_some]
  by_cases h : 4 ≤ a ∧ a ≤ 40
  · simp only [if_pos h]
    by_cases h5 : l.length ≤ 5000
    · simp only [if_pos h5, if_neg (show ¬ ((l.length : Int) > 5000) by omega), if_true]
      have hm := two_pow_ge (n := a.toNat) (by omega)
      have hm1 := two_pow_le (n := a.toNat) (by omega)
      rw [shl_one h.1 h.2]
      exact Ev.pos (by omega) (unrolled_loop hm hm1 l h5 l [] [] 0 rfl rfl (by omega) (by omega))
    · simp only [if_neg h5, if_pos (show (l.length : Int) > 5000 by omega)]
      exact Ev.neg (by decide) (Ev.some rfl)
  · simp only [if_neg h]
    exact Ev.neg (by decide) (Ev.some rfl)
theorem chain_bound : ∀ (l : List Int) (p : Int), chain p l → ∀ x ∈ l, 0 ≤ x ∧ x ≤ 1000000000000
  | n :: t, p, h, x, hx => by
    rcases List.mem_cons.mp hx with rfl | hx
    · exact ⟨h.1, h.2.1⟩
    · exact chain_bound t n h.2.2.2 x hx
theorem rdT_mid (pre : List S33) (x : S33) (t : List S33) : rd_T33 (pre ++ x :: t) (pre.length : Int) = x := by
  simp [rd_T33]
def markOk (x : S33) : Prop := (0 ≤ x.f0 ∧ x.f0 ≤ 1000000000000) ∧ (0 ≤ x.f1 ∧ x.f1 ≤ 1000000000000) ∧ (0 ≤ x.f2 ∧ x.f2 ≤ 1000000000)
instance (x : S33) : Decidable (markOk x) := by unfold markOk; exact inferInstance
def marksGo : Int → Int → List S33 → Int
  | _, _, [] => 0
  | p, q, x :: t => if markOk x then (if x.f0 ≤ p ∨ x.f1 ≤ q then 8 else marksGo x.f0 x.f1 t) else 1
def marksS (m : List S33) : Int := if m.length = 0 then 9 else if m.length > 2000 then 2 else marksGo (-1) (-1) m
theorem marks_loop (m : List S33) (hm : m.length ≤ 2000) : ∀ (t pre : List S33) (p q : Int), m = pre ++ t → (pre.length = 0 → p = -1 ∧ q = -1) → (0 < pre.length → (rd_T33 m ((pre.length : Int) - 1)).f0 = p ∧ (rd_T33 m ((pre.length : Int) - 1)).f1 = q) →
    Ev (fun k => clock_CheckMarks.l0 k m m m.length pre.length) (marksGo p q t)
  | [], pre, p, q, hp, _, _ => by
    refine Ev.step (fun k => by rw [clock_CheckMarks.l0]) ?_
    exact Ev.neg (by rw [hp]; simp) (Ev.now _)
  | x :: t, pre, p, q, hp, h0, h1 => by
    have hlen : pre.length < m.length := by rw [hp]; simp
    have hrd : rd_T33 m pre.length = x := by rw [hp]; exact rdT_mid ..
    have hw : wrap64 ((pre.length : Int) + 1) = ((pre ++ [x]).length : Int) := by rw [w64 (by omega) (by omega)]; simp
    have ih := marks_loop m hm t (pre ++ [x]) x.f0 x.f1 (by simp [hp]) (by simp) (fun _ => by
      have e : ((pre ++ [x]).length : Int) - 1 = pre.length := by simp
      rw [e, hrd]; exact ⟨rfl, rfl⟩)
    refine Ev.step (fun k => by rw [clock_CheckMarks.l0]) ?_
    simp only [hrd, In_eq, Option.bind_some]
    refine Ev.pos (by omega) (Ev.pos (by omega) (Ev.pos (by omega) ?_))
    unfold marksGo
    have tail : ∀ b : Bool, (b = true ↔ ¬ markOk x) → Ev (fun k => clock_CheckMarks.j1 k m pre.length m m.length pre.length b x.f0 x.f1 x.f2) (if markOk x then (if x.f0 ≤ p ∨ x.f1 ≤ q then 8 else marksGo x.f0 x.f1 t) else 1) := by
      intro b hb
      refine Ev.step (fun k => by rw [clock_CheckMarks.j1]) ?_
      by_cases hok : markOk x
      · refine Ev.neg (fun h => (hb.mp h) hok) ?_
        rw [if_pos hok, hw]
        have hok' := hok
        unfold markOk at hok'
        by_cases hz : pre.length = 0
        · obtain ⟨rfl, rfl⟩ := h0 hz
          rw [if_neg (by omega)]
          exact Ev.neg (by omega) ih
        · obtain ⟨e0, e1⟩ := h1 (by omega)
          rw [w64 (show -9223372036854775808 ≤ (pre.length : Int) - 1 by omega) (by omega), e0, e1]
          refine Ev.pos (by omega) (Ev.pos (by omega) (Ev.pos (by omega) ?_))
          by_cases c0 : x.f0 ≤ p
          · rw [if_pos (.inl c0)]
            exact Ev.pos c0 (Ev.now _)
          · refine Ev.neg c0 ?_
            by_cases c1 : x.f1 ≤ q
            · rw [if_pos (.inr c1)]
              exact Ev.pos c1 (Ev.now _)
            · rw [if_neg (by omega)]
              exact Ev.neg c1 ih
      · rw [if_neg hok]
        exact Ev.pos (hb.mpr hok) (Ev.now _)
    by_cases c0 : 0 ≤ x.f0 ∧ x.f0 ≤ 1000000000000
    · refine Ev.pos (by simpa using c0) ?_
      by_cases c1 : 0 ≤ x.f1 ∧ x.f1 ≤ 1000000000000
      · refine Ev.pos (by simpa using c1) ?_
        refine tail _ ?_
        unfold markOk
        simp [c0, c1]
        omega
      · refine Ev.neg (by simpa using c1) (tail true ?_)
        unfold markOk
        simp only [true_iff]
        exact fun h => c1 h.2.1
    · refine Ev.neg (by simpa using c0) (tail true ?_)
      unfold markOk
      simp only [true_iff]
      exact fun h => c0 h.1
theorem marks_ev (m : List S33) : Ev (fun k => clock_CheckMarks.f k m) (marksS m) := by
  unfold clock_CheckMarks.f marksS
  by_cases h0 : m.length = 0
  · rw [if_pos h0]
    exact Ev.pos (by omega) (Ev.now _)
  · rw [if_neg h0]
    refine Ev.neg (by omega) ?_
    by_cases h1 : m.length > 2000
    · rw [if_pos h1]
      exact Ev.pos (by omega) (Ev.now _)
    · rw [if_neg h1]
      refine Ev.neg (by omega) ?_
      exact marks_loop m (by omega) m [] (-1) (-1) rfl (fun _ => ⟨rfl, rfl⟩) (fun h => by simp at h)
theorem marksGo_ok : ∀ (t : List S33) (p q : Int), marksGo p q t = 0 → ∀ x ∈ t, markOk x
  | y :: t, p, q, h, x, hx => by
    unfold marksGo at h
    split at h
    · rename_i h1
      split at h
      · cases h
      · rcases List.mem_cons.mp hx with rfl | hx
        · exact h1
        · exact marksGo_ok t _ _ h x hx
    · cases h
theorem marksS_ok {m : List S33} (h : marksS m = 0) : 0 < m.length ∧ m.length ≤ 2000 ∧ marksGo (-1) (-1) m = 0 := by
  unfold marksS at h
  split at h
  · cases h
  · split at h
    · cases h
    · exact ⟨by omega, by omega, h⟩
theorem u64w {x : Int} (h0 : 0 ≤ x) (h1 : x < 18446744073709551616) : IntKind.u64.wrap x = x := by rw [IntKind.wrap_u64]; omega
theorem wr_u64 (n : Int) (h₀ : 0 ≤ n) (h₁ : n < 2 ^ 64) : IntKind.u64.wrap n = n := u64w h₀ (by omega)
theorem and_low {x : Int} (h0 : 0 ≤ x) (h1 : x < 18446744073709551616) : Go.bits .and .u64 x 4294967295 = x % 4294967296 := bits_mask .u64 64 (by decide) wr_u64 32 (by decide) x h0 h1
theorem mul_bound {a b n m : Int} (ha : 0 ≤ a) (ha1 : a ≤ n) (hb : 0 ≤ b) (hb1 : b ≤ m) : 0 ≤ a * b ∧ a * b ≤ n * m :=
  ⟨Int.mul_nonneg ha hb, Int.le_trans (Int.mul_le_mul_of_nonneg_right ha1 hb) (Int.mul_le_mul_of_nonneg_left hb1 (by omega))⟩
def amt (a : Int) : Int := if a < 0 then -a else a
theorem amount_eq {a : Int} (h0 : -9223372036854775808 ≤ a) (h1 : a ≤ 9223372036854775807) : kit_amount.f a = some (amt a) := by
  unfold kit_amount.f amt
  simp only [IntKind.wrap_u64]
  split
  · exact congrArg some (by omega)
  · exact congrArg some (by omega)
theorem mul_eq {x y : Int} (hx0 : 0 ≤ x) (hx1 : x < 18446744073709551616) (hy0 : 0 ≤ y) (hy1 : y < 18446744073709551616) :
    bits_Mul64.f x y = some (x * y / 18446744073709551616, x * y % 18446744073709551616) := by
  unfold bits_Mul64.f
  rw [and_low hx0 hx1, and_low hy0 hy1]
  obtain ⟨p0, p1⟩ := mul_bound (a := x / 4294967296) (b := y / 4294967296) (n := 4294967295) (m := 4294967295) (by omega) (by omega) (by omega) (by omega)
  obtain ⟨q0, q1⟩ := mul_bound (a := x / 4294967296) (b := y % 4294967296) (n := 4294967295) (m := 4294967295) (by omega) (by omega) (by omega) (by omega)
  obtain ⟨r0, r1⟩ := mul_bound (a := x % 4294967296) (b := y / 4294967296) (n := 4294967295) (m := 4294967295) (by omega) (by omega) (by omega) (by omega)
  obtain ⟨s0, s1⟩ := mul_bound (a := x % 4294967296) (b := y % 4294967296) (n := 4294967295) (m := 4294967295) (by omega) (by omega) (by omega) (by omega)
  have ex : x = x / 4294967296 * 4294967296 + x % 4294967296 := by omega
  have ey : y = y / 4294967296 * 4294967296 + y % 4294967296 := by omega
  have e : x * y = x / 4294967296 * (y / 4294967296) * 18446744073709551616 + (x / 4294967296 * (y % 4294967296) + x % 4294967296 * (y / 4294967296)) * 4294967296 + x % 4294967296 * (y % 4294967296) := by
    generalize x / 4294967296 = a at *
    generalize x % 4294967296 = b at *
    generalize y / 4294967296 = c at *
    generalize y % 4294967296 = d at *
    rw [ex, ey]
    grind
  rw [e]
  clear e ex ey
  generalize x / 4294967296 * (y / 4294967296) = p at *
  generalize x / 4294967296 * (y % 4294967296) = q at *
  generalize x % 4294967296 * (y / 4294967296) = r at *
  generalize x % 4294967296 * (y % 4294967296) = s at *
  rw [u64w p0 (by omega), u64w q0 (by omega), u64w r0 (by omega), u64w s0 (by omega)]
  rw [u64w (x := q + s / 4294967296) (by omega) (by omega), and_low (by omega) (by omega)]
  rw [u64w (x := (q + s / 4294967296) % 4294967296 + r) (by omega) (by omega)]
  rw [u64w (x := p + (q + s / 4294967296) / 4294967296) (by omega) (by omega)]
  rw [u64w (x := p + (q + s / 4294967296) / 4294967296 + ((q + s / 4294967296) % 4294967296 + r) / 4294967296) (by omega) (by omega), IntKind.wrap_u64]
  refine congrArg some (Prod.ext ?_ rfl)
  show _ = _
  omega
/-- One digit of the quotient: what is asked of the guess. -/
structure Guess (u d y1 y0 q r Q : Int) : Prop where
  hy1 : 2147483648 ≤ y1 ∧ y1 < 4294967296
  hy0 : 0 ≤ y0 ∧ y0 < 4294967296
  hd : 0 ≤ d ∧ d < 4294967296
  hu : 0 ≤ u ∧ u < y1 * 4294967296 + y0
  hr : 0 ≤ r ∧ r < 4294967296
  hq : q * y1 + r = u
  hQ : 0 ≤ Q ∧ Q < 4294967296
  hQ0 : Q * (y1 * 4294967296 + y0) ≤ u * 4294967296 + d
  hQ1 : u * 4294967296 + d < Q * (y1 * 4294967296 + y0) + (y1 * 4294967296 + y0)
  hqQ : Q ≤ q
  hqB : q ≤ 4294967297
theorem Guess.big {u d y1 y0 q r Q : Int} (g : Guess u d y1 y0 q r Q) : (q ≥ 4294967296 ∨ q * y0 > 4294967296 * r + d) ↔ Q < q := by
  obtain ⟨⟨a0, a1⟩, ⟨b0, b1⟩, ⟨d0, d1⟩, ⟨u0, u1⟩, ⟨r0, r1⟩, hq, ⟨Q0, Q1⟩, hQ0, hQ1, hqQ, hqB⟩ := g
  have key : q * (y1 * 4294967296 + y0) = (u - r) * 4294967296 + q * y0 := by rw [← hq]; grind
  constructor
  · rintro (h | h)
    · omega
    · refine Int.lt_of_not_ge fun hle => ?_
      have := Int.mul_le_mul_of_nonneg_right hle (show 0 ≤ y1 * 4294967296 + y0 by omega)
      omega
  · intro h
    by_cases hb : q ≥ 4294967296
    · exact .inl hb
    · refine .inr ?_
      have := Int.mul_le_mul_of_nonneg_right (show Q + 1 ≤ q by omega) (show 0 ≤ y1 * 4294967296 + y0 by omega)
      have e : (Q + 1) * (y1 * 4294967296 + y0) = Q * (y1 * 4294967296 + y0) + (y1 * 4294967296 + y0) := by grind
      omega
theorem Guess.next {u d y1 y0 q r Q : Int} (g : Guess u d y1 y0 q r Q) (h : Q < q) (hr : r + y1 < 4294967296) : Guess u d y1 y0 (q - 1) (r + y1) Q := by
  obtain ⟨a, b, d', u', r', hq, hQ, hQ0, hQ1, hqQ, hqB⟩ := g
  exact ⟨a, b, d', u', ⟨by omega, hr⟩, by rw [← hq]; grind, hQ, hQ0, hQ1, by omega, by omega⟩
theorem Guess.last {u d y1 y0 q r Q : Int} (g : Guess u d y1 y0 q r Q) (h : Q < q) (hr : ¬ r + y1 < 4294967296) : q - 1 = Q := by
  obtain ⟨⟨a0, a1⟩, ⟨b0, b1⟩, ⟨d0, d1⟩, ⟨u0, u1⟩, ⟨r0, r1⟩, hq, ⟨Q0, Q1⟩, hQ0, hQ1, hqQ, hqB⟩ := g
  have key : (q - 1) * (y1 * 4294967296 + y0) = (u - r - y1) * 4294967296 + (q - 1) * y0 := by rw [← hq]; grind
  have b := (mul_bound (a := q - 1) (b := y0) (n := 4294967296) (m := 4294967295) (by omega) (by omega) b0 (by omega)).2
  have : ¬ Q + 1 ≤ q - 1 := fun hle => by
    have := Int.mul_le_mul_of_nonneg_right hle (show 0 ≤ y1 * 4294967296 + y0 by omega)
    have e : (Q + 1) * (y1 * 4294967296 + y0) = Q * (y1 * 4294967296 + y0) + (y1 * 4294967296 + y0) := by grind
    omega
  omega
theorem Guess.wraps {u d y1 y0 q r Q : Int} (g : Guess u d y1 y0 q r Q) (h : ¬ q ≥ 4294967296) : IntKind.u64.wrap (q * y0) = q * y0 ∧ IntKind.u64.wrap (IntKind.u64.wrap (4294967296 * r) + d) = 4294967296 * r + d := by
  obtain ⟨⟨a0, a1⟩, ⟨b0, b1⟩, ⟨d0, d1⟩, ⟨u0, u1⟩, ⟨r0, r1⟩, hq, ⟨Q0, Q1⟩, hQ0, hQ1, hqQ, hqB⟩ := g
  obtain ⟨p0, p1⟩ := mul_bound (a := q) (b := y0) (n := 4294967295) (m := 4294967295) (by omega) (by omega) b0 (by omega)
  rw [u64w p0 (by omega), u64w (x := 4294967296 * r) (by omega) (by omega), u64w (by omega) (by omega)]
  exact ⟨rfl, rfl⟩
theorem Guess.first {u d y1 y0 : Int} (hy1 : 2147483648 ≤ y1 ∧ y1 < 4294967296) (hy0 : 0 ≤ y0 ∧ y0 < 4294967296) (hd : 0 ≤ d ∧ d < 4294967296) (hu : 0 ≤ u ∧ u < y1 * 4294967296 + y0) :
    Guess u d y1 y0 (u / y1) (u % y1) ((u * 4294967296 + d) / (y1 * 4294967296 + y0)) := by
  have hpos : 0 < y1 * 4294967296 + y0 := by omega
  have e := Int.mul_ediv_add_emod (u * 4294967296 + d) (y1 * 4294967296 + y0)
  have m0 := Int.emod_nonneg (u * 4294967296 + d) (show y1 * 4294967296 + y0 ≠ 0 by omega)
  have m1 := Int.emod_lt_of_pos (u * 4294967296 + d) hpos
  rw [Int.mul_comm] at e
  have f := Int.mul_ediv_add_emod u y1
  have n0 := Int.emod_nonneg u (show y1 ≠ 0 by omega)
  have n1 := Int.emod_lt_of_pos u (show 0 < y1 by omega)
  rw [Int.mul_comm] at f
  have Q0 : 0 ≤ (u * 4294967296 + d) / (y1 * 4294967296 + y0) := Int.ediv_nonneg (by omega) (by omega)
  have q0 : 0 ≤ u / y1 := Int.ediv_nonneg (by omega) (by omega)
  generalize (u * 4294967296 + d) / (y1 * 4294967296 + y0) = Q at *
  generalize (u * 4294967296 + d) % (y1 * 4294967296 + y0) = M at *
  generalize u / y1 = q at *
  generalize u % y1 = r at *
  have hQB : Q < 4294967296 := Int.lt_of_not_ge fun h => by
    have := Int.mul_le_mul_of_nonneg_right h (show 0 ≤ y1 * 4294967296 + y0 by omega)
    omega
  refine ⟨hy1, hy0, hd, hu, ⟨n0, by omega⟩, f, ⟨Q0, hQB⟩, by omega, by omega, ?_, ?_⟩
  · refine Int.le_of_not_gt fun h => ?_
    have := Int.mul_le_mul_of_nonneg_right (show q + 1 ≤ Q by omega) (show 0 ≤ y1 * 4294967296 + y0 by omega)
    have e2 : (q + 1) * (y1 * 4294967296 + y0) = (q * y1 + y1) * 4294967296 + (q + 1) * y0 := by grind
    have := Int.mul_nonneg (show 0 ≤ q + 1 by omega) hy0.1
    omega
  · refine Int.le_of_not_gt fun h => ?_
    have := Int.mul_le_mul_of_nonneg_right (show (4294967298 : Int) ≤ q by omega) (show 0 ≤ y1 by omega)
    omega
theorem digit0 {x2 x8 x9 x10 x11 x13 x14 Q : Int} {R : Int × Int} (hR : Ev (fun k => bits_Div64.j2 k x2 x8 x9 x10 x11 x13 x14 Q) R) (q r : Int) (g : Guess x11 x13 x9 x10 q r Q) :
    Ev (fun k => bits_Div64.l0 k x2 x8 x9 x10 x11 x13 x14 q r) R := by
  have up : ∀ t : Bool, (t = true ↔ Q < q) → Ev (fun k => bits_Div64.j1 k x2 x8 x9 x10 x11 x13 x14 q r t) R := by
    intro t ht
    refine Ev.step (fun k => by rw [bits_Div64.j1]) ?_
    by_cases h : Q < q
    · refine Ev.pos (ht.mpr h) ?_
      have h1 := g.hy1; have h2 := g.hr; have h3 := g.hQ; have h4 := g.hqB
      rw [u64w (x := r + x9) (by omega) (by omega), u64w (x := q - 1) (by omega) (by omega)]
      by_cases hb : r + x9 < 4294967296
      · exact Ev.neg (by omega) (digit0 hR (q - 1) (r + x9) (g.next h hb))
      · refine Ev.pos (by omega) ?_
        rw [g.last h hb]
        exact hR
    · refine Ev.neg (fun e => h (ht.mp e)) ?_
      have : q = Q := by have := g.hqQ; omega
      rw [this]
      exact hR
  refine Ev.step (fun k => by rw [bits_Div64.l0]) ?_
  by_cases hb : q ≥ 4294967296
  · exact Ev.pos hb (up true (by have := g.hQ; simp; omega))
  · refine Ev.neg hb (up _ ?_)
    rw [(g.wraps hb).1, (g.wraps hb).2, decide_eq_true_iff, ← g.big]
    simp [hb]
termination_by (4294967296 - r).toNat
decreasing_by have h1 := g.hy1; have h2 := g.hr; omega
def FINS (x2 x8 x14 x15 x17 q : Int) : Int × Int := (IntKind.u64.wrap (IntKind.u64.wrap (x15 * 4294967296) + q), shr .u64 (IntKind.u64.wrap (IntKind.u64.wrap (IntKind.u64.wrap (x17 * 4294967296) + x14) - IntKind.u64.wrap (q * x2))) x8)
theorem digit1 {x2 x8 x9 x10 x14 x15 x17 Q : Int} (h8 : 0 ≤ x8) (q r : Int) (g : Guess x17 x14 x9 x10 q r Q) :
    Ev (fun k => bits_Div64.l1 k x2 x8 x9 x10 x14 x15 r x17 q) (FINS x2 x8 x14 x15 x17 Q) := by
  have up : ∀ t : Bool, (t = true ↔ Q < q) → Ev (fun k => bits_Div64.j4 k x2 x8 x9 x10 x14 x15 r x17 q t) (FINS x2 x8 x14 x15 x17 Q) := by
    intro t ht
    refine Ev.step (fun k => by rw [bits_Div64.j4]) ?_
    by_cases h : Q < q
    · refine Ev.pos (ht.mpr h) ?_
      have h1 := g.hy1; have h2 := g.hr; have h3 := g.hQ; have h4 := g.hqB
      rw [u64w (x := r + x9) (by omega) (by omega), u64w (x := q - 1) (by omega) (by omega)]
      by_cases hb : r + x9 < 4294967296
      · exact Ev.neg (by omega) (digit1 h8 (q - 1) (r + x9) (g.next h hb))
      · refine Ev.pos (by omega) (Ev.pos h8 ?_)
        rw [g.last h hb]
        exact Ev.now _
    · refine Ev.neg (fun e => h (ht.mp e)) (Ev.pos h8 ?_)
      have : q = Q := by have := g.hqQ; omega
      rw [this]
      exact Ev.now _
  refine Ev.step (fun k => by rw [bits_Div64.l1]) ?_
  by_cases hb : q ≥ 4294967296
  · exact Ev.pos hb (up true (by have := g.hQ; simp; omega))
  · refine Ev.neg hb (up _ ?_)
    rw [(g.wraps hb).1, (g.wraps hb).2, decide_eq_true_iff, ← g.big]
    simp [hb]
termination_by (4294967296 - r).toNat
decreasing_by have h1 := g.hy1; have h2 := g.hr; omega
def tabS : ByteArray := ⟨#[0, 1, 2, 2, 3, 3, 3, 3, 4, 4, 4, 4, 4, 4, 4, 4, 5, 5, 5, 5, 5, 5, 5, 5, 5, 5, 5, 5, 5, 5, 5, 5, 6, 6, 6, 6, 6, 6, 6, 6, 6, 6, 6, 6, 6, 6, 6, 6, 6, 6, 6, 6, 6, 6, 6, 6, 6, 6, 6, 6, 6, 6, 6, 6, 7, 7, 7, 7, 7, 7, 7, 7, 7, 7, 7, 7, 7, 7, 7, 7, 7, 7, 7, 7, 7, 7, 7, 7, 7, 7, 7, 7, 7, 7, 7, 7, 7, 7, 7, 7, 7, 7, 7, 7, 7, 7, 7, 7, 7, 7, 7, 7, 7, 7, 7, 7, 7, 7, 7, 7, 7, 7, 7, 7, 7, 7, 7, 7, 8, 8, 8, 8, 8, 8, 8, 8, 8, 8, 8, 8, 8, 8, 8, 8, 8, 8, 8, 8, 8, 8, 8, 8, 8, 8, 8, 8, 8, 8, 8, 8, 8, 8, 8, 8, 8, 8, 8, 8, 8, 8, 8, 8, 8, 8, 8, 8, 8, 8, 8, 8, 8, 8, 8, 8, 8, 8, 8, 8, 8, 8, 8, 8, 8, 8, 8, 8, 8, 8, 8, 8, 8, 8, 8, 8, 8, 8, 8, 8, 8, 8, 8, 8, 8, 8, 8, 8, 8, 8, 8, 8, 8, 8, 8, 8, 8, 8, 8, 8, 8, 8, 8, 8, 8, 8, 8, 8, 8, 8, 8, 8, 8, 8, 8, 8, 8, 8, 8, 8, 8, 8, 8, 8, 8, 8, 8, 8]⟩
def tabN (n : Nat) : Int := if n < 1 then 0 else if n < 2 then 1 else if n < 4 then 2 else if n < 8 then 3 else if n < 16 then 4 else if n < 32 then 5 else if n < 64 then 6 else if n < 128 then 7 else 8
theorem tab_all : ∀ n : Fin 256, bt tabS ((n.val : Nat) : Int) = tabN n.val := by decide +kernel
theorem tab_eq {i : Int} (h0 : 0 ≤ i) (h1 : i < 256) : bt tabS i = tabN i.toNat := by
  have := tab_all ⟨i.toNat, by omega⟩
  rw [show ((i.toNat : Nat) : Int) = i by omega] at this
  exact this
set_option maxHeartbeats 4000000 in
theorem leaf {y i : Int} {n : Nat} (hn : n = 0 ∨ n = 8 ∨ n = 16 ∨ n = 24 ∨ n = 32 ∨ n = 40 ∨ n = 48 ∨ n = 56) (hi : i = y / 2 ^ n) (h1 : 1 ≤ i) (h2 : i < 256) :
    ∃ s : Nat, s ≤ 63 ∧ (64 : Int) - (n + bt tabS i) = s ∧ 9223372036854775808 ≤ y * 2 ^ s ∧ y * 2 ^ s < 18446744073709551616 := by
  rw [tab_eq (by omega) h2]
  have ht : ∃ t : Nat, tabN i.toNat = t ∧ (t = 1 ∧ 1 ≤ i ∧ i < 2 ∨ t = 2 ∧ 2 ≤ i ∧ i < 4 ∨ t = 3 ∧ 4 ≤ i ∧ i < 8 ∨ t = 4 ∧ 8 ≤ i ∧ i < 16 ∨ t = 5 ∧ 16 ≤ i ∧ i < 32 ∨ t = 6 ∧ 32 ≤ i ∧ i < 64 ∨ t = 7 ∧ 64 ≤ i ∧ i < 128 ∨ t = 8 ∧ 128 ≤ i ∧ i < 256) := by
    unfold tabN
    rw [if_neg (by omega)]
    split; · exact ⟨1, rfl, by omega⟩
    split; · exact ⟨2, rfl, by omega⟩
    split; · exact ⟨3, rfl, by omega⟩
    split; · exact ⟨4, rfl, by omega⟩
    split; · exact ⟨5, rfl, by omega⟩
    split; · exact ⟨6, rfl, by omega⟩
    split; · exact ⟨7, rfl, by omega⟩
    exact ⟨8, rfl, by omega⟩
  obtain ⟨t, ht, hc⟩ := ht
  rw [ht]
  clear ht
  refine ⟨64 - (n + t), by omega, by omega, ?_⟩
  rcases hn with rfl | rfl | rfl | rfl | rfl | rfl | rfl | rfl <;> rcases hc with ⟨rfl, a, b⟩ | ⟨rfl, a, b⟩ | ⟨rfl, a, b⟩ | ⟨rfl, a, b⟩ | ⟨rfl, a, b⟩ | ⟨rfl, a, b⟩ | ⟨rfl, a, b⟩ | ⟨rfl, a, b⟩ <;>
    simp only [Nat.reduceAdd, Nat.reduceSub, Int.reducePow, Int.pow_zero, Int.ediv_one] at hi ⊢ <;> omega
theorem len_j0 {x n : Int} (hn0 : 0 ≤ n) (hn1 : n ≤ 32) (h0 : 1 ≤ x) (h1 : x < 4294967296) :
    ∃ m : Nat, (m = 0 ∨ m = 8 ∨ m = 16 ∨ m = 24) ∧ 1 ≤ x / 2 ^ m ∧ x / 2 ^ m < 256 ∧ Ev (fun k => bits_Len64.j0 k x n) (n + m + bt tabS (x / 2 ^ m)) := by
  have br : ∀ i, 0 ≤ bt tabS i ∧ bt tabS i ≤ 255 := fun i => bt_range tabS i
  by_cases c : x ≥ 65536
  · by_cases d : x / 65536 ≥ 256
    · refine ⟨24, by omega, by omega, by omega, ?_⟩
      refine Ev.step (fun k => by rw [bits_Len64.j0]) (Ev.pos c (Ev.pos d (Ev.pos (by omega) (Ev.pos (by omega) (Ev.some ?_)))))
      rw [show x / 65536 / 256 % 256 = x / 2 ^ 24 by omega]
      have := br (x / 2 ^ 24)
      show wrap64 (wrap64 (wrap64 (n + 16) + 8) + wrap64 (bt tabS (x / 2 ^ 24))) = _
      rw [w64 (x := n + 16) (by omega) (by omega), w64 (x := n + 16 + 8) (by omega) (by omega), w64 (x := bt tabS (x / 2 ^ 24)) (by omega) (by omega), w64 (by omega) (by omega)]
      omega
    · refine ⟨16, by omega, by omega, by omega, ?_⟩
      refine Ev.step (fun k => by rw [bits_Len64.j0]) (Ev.pos c (Ev.neg d (Ev.pos (by omega) (Ev.pos (by omega) (Ev.some ?_)))))
      rw [show x / 65536 % 256 = x / 2 ^ 16 by omega]
      have := br (x / 2 ^ 16)
      show wrap64 (wrap64 (n + 16) + wrap64 (bt tabS (x / 2 ^ 16))) = _
      rw [w64 (x := n + 16) (by omega) (by omega), w64 (x := bt tabS (x / 2 ^ 16)) (by omega) (by omega), w64 (by omega) (by omega)]
      omega
  · by_cases d : x ≥ 256
    · refine ⟨8, by omega, by omega, by omega, ?_⟩
      refine Ev.step (fun k => by rw [bits_Len64.j0]) (Ev.neg c (Ev.pos d (Ev.pos (by omega) (Ev.pos (by omega) (Ev.some ?_)))))
      rw [show x / 256 % 256 = x / 2 ^ 8 by omega]
      have := br (x / 2 ^ 8)
      show wrap64 (wrap64 (n + 8) + wrap64 (bt tabS (x / 2 ^ 8))) = _
      rw [w64 (x := n + 8) (by omega) (by omega), w64 (x := bt tabS (x / 2 ^ 8)) (by omega) (by omega), w64 (by omega) (by omega)]
      omega
    · refine ⟨0, by omega, by omega, by omega, ?_⟩
      refine Ev.step (fun k => by rw [bits_Len64.j0]) (Ev.neg c (Ev.neg d (Ev.pos (by omega) (Ev.pos (by omega) (Ev.some ?_)))))
      rw [show x % 256 = x / 2 ^ 0 by omega]
      have := br (x / 2 ^ 0)
      show wrap64 (n + wrap64 (bt tabS (x / 2 ^ 0))) = _
      rw [w64 (x := bt tabS (x / 2 ^ 0)) (by omega) (by omega), w64 (by omega) (by omega)]
      omega
theorem zeros_ev {y : Int} (h0 : 1 ≤ y) (h1 : y < 18446744073709551616) :
    ∃ s : Nat, s ≤ 63 ∧ Ev (fun k => bits_LeadingZeros64.f k y) (s : Int) ∧ 9223372036854775808 ≤ y * 2 ^ s ∧ y * 2 ^ s < 18446744073709551616 := by
  have main : ∃ (n : Nat) (i : Int), (n = 0 ∨ n = 8 ∨ n = 16 ∨ n = 24 ∨ n = 32 ∨ n = 40 ∨ n = 48 ∨ n = 56) ∧ i = y / 2 ^ n ∧ 1 ≤ i ∧ i < 256 ∧ Ev (fun k => bits_Len64.f k y) (n + bt tabS i) := by
    by_cases c : y ≥ 4294967296
    · obtain ⟨m, hm, a, b, e⟩ := len_j0 (x := y / 4294967296) (n := 32) (by omega) (by omega) (by omega) (by omega)
      refine ⟨32 + m, y / 4294967296 / 2 ^ m, by omega, ?_, a, b, ?_⟩
      · rcases hm with rfl | rfl | rfl | rfl <;> simp only [Nat.reduceAdd, Int.reducePow, Int.pow_zero, Int.ediv_one] <;> omega
      · unfold bits_Len64.f
        refine Ev.pos c ?_
        rw [show ((32 + m : Nat) : Int) = 32 + (m : Int) by omega]
        exact e
    · obtain ⟨m, hm, a, b, e⟩ := len_j0 (x := y) (n := 0) (by omega) (by omega) (by omega) (by omega)
      refine ⟨m, y / 2 ^ m, by omega, rfl, a, b, ?_⟩
      unfold bits_Len64.f
      refine Ev.neg c ?_
      rw [Int.zero_add] at e
      exact e
  obtain ⟨n, i, hn, hi, i0, i1, e⟩ := main
  obtain ⟨s, hs, h2, h3, h4⟩ := leaf hn hi i0 i1
  refine ⟨s, hs, ?_, h3, h4⟩
  unfold bits_LeadingZeros64.f
  refine Ev.bind e (Ev.some ?_)
  rw [h2, w64 (by omega) (by omega)]
theorem shl_eq {x : Int} {s : Nat} (h : s ≤ 64) : shl .u64 x s = x * 2 ^ s % 18446744073709551616 := by
  unfold shl
  rw [show min (s : Int).toNat IntKind.u64.bits = s by show min _ 64 = s; omega, IntKind.wrap_u64]
theorem shr_eq {x : Int} {s : Nat} (h : s ≤ 64) : shr .u64 x s = x / 2 ^ s := by
  unfold shr
  rw [show min (s : Int).toNat IntKind.u64.bits = s by show min _ 64 = s; omega]
theorem div_unique {n y q r : Int} (h : q * y + r = n) (h0 : 0 ≤ r) (h1 : r < y) : q = n / y ∧ r = n % y := by
  subst h
  have e1 : (q * y + r) / y = q := by rw [Int.add_comm, Int.add_mul_ediv_right _ _ (by omega), Int.ediv_eq_zero_of_lt h0 h1, Int.zero_add]
  have e2 : (q * y + r) % y = r := by rw [Int.add_comm, Int.add_mul_emod_self_right, Int.emod_eq_of_lt h0 h1]
  exact ⟨e1.symm, e2.symm⟩
theorem div_ev {hi lo y : Int} (hh : 0 ≤ hi ∧ hi < y) (hl : 0 ≤ lo ∧ lo < 18446744073709551616) (hy : y < 18446744073709551616) :
    Ev (fun k => bits_Div64.f k hi lo y) ((hi * 18446744073709551616 + lo) / y, (hi * 18446744073709551616 + lo) % y) := by
  unfold bits_Div64.f
  refine Ev.neg (by omega) (Ev.neg (by omega) ?_)
  by_cases z : hi = 0
  · refine Ev.pos z (Ev.some ?_)
    subst z
    have a := Int.ediv_le_self y hl.1
    have b := Int.ediv_nonneg hl.1 (show 0 ≤ y by omega)
    rw [Int.tdiv_eq_ediv_of_nonneg hl.1, Int.tmod_eq_emod_of_nonneg hl.1, u64w b (by omega), Int.zero_mul, Int.zero_add]
  · refine Ev.neg z ?_
    obtain ⟨s, hs, hz, y0, y1⟩ := zeros_ev (y := y) (by omega) hy
    refine Ev.bind hz ?_
    rw [u64w (x := (s : Int)) (by omega) (by omega), u64w (x := 64 - (s : Int)) (by omega) (by omega), show (64 : Int) - s = ((64 - s : Nat) : Int) by omega,
      shl_eq (by omega), shl_eq (by omega), shl_eq (by omega), shr_eq (by omega)]
    refine Ev.pos (by omega) (Ev.pos (by omega) ?_)
    have pp : (2 : Int) ^ s * 2 ^ (64 - s) = 18446744073709551616 := by rw [← Int.pow_add, show s + (64 - s) = 64 by omega]; rfl
    have p0 : (0 : Int) < 2 ^ s := Int.pow_pos (by decide)
    have q0 : (0 : Int) < 2 ^ (64 - s) := Int.pow_pos (by decide)
    generalize hp : (2 : Int) ^ s = p at *
    generalize hpp : (2 : Int) ^ (64 - s) = pq at *
    -- the words of what is divided
    have lh := Int.mul_ediv_add_emod lo pq
    have ll0 := Int.emod_nonneg lo (show pq ≠ 0 by omega)
    have ll1 := Int.emod_lt_of_pos lo q0
    have lh0 := Int.ediv_nonneg hl.1 (show 0 ≤ pq by omega)
    generalize lo / pq = h at *
    generalize lo % pq = l at *
    have hlt : h < p := by
      refine Int.lt_of_not_ge fun hge => ?_
      have := Int.mul_le_mul_of_nonneg_left hge (show 0 ≤ pq by omega)
      have : pq * p = 18446744073709551616 := by rw [Int.mul_comm]; exact pp
      omega
    have lp0 : 0 ≤ l * p := Int.mul_nonneg ll0 (by omega)
    have lp1 : l * p < 18446744073709551616 := by
      have := Int.mul_lt_mul_of_pos_right ll1 p0
      rw [Int.mul_comm pq p, pp] at this
      exact this
    have elo : lo * p = h * 18446744073709551616 + l * p := by rw [← lh, ← pp]; grind
    have hip : (hi + 1) * p ≤ y * p := Int.mul_le_mul_of_nonneg_right (by omega) (by omega)
    have hip' : (hi + 1) * p = hi * p + p := by grind
    have hi0 : 0 ≤ hi * p := Int.mul_nonneg hh.1 (by omega)
    rw [elo, show (h * 18446744073709551616 + l * p) % 18446744073709551616 = l * p by omega, show hi * p % 18446744073709551616 = hi * p by omega, show y * p % 18446744073709551616 = y * p by omega]
    have ej : Go.bits .or .u64 (hi * p) h = hi * p + h := by
      rw [← hp]
      exact bits_join .u64 64 (by decide) wr_u64 s _ _ (by rw [hp]; exact hi0) (Int.mul_emod_left _ _) (by rw [hp]; omega) lh0 (by rw [hp]; exact hlt) (by omega)
    rw [ej, and_low (by omega) (by omega), and_low (by omega) (by omega)]
    have eN : (hi * p + h) * 18446744073709551616 + l * p = p * (hi * 18446744073709551616 + lo) := by
      have : p * (hi * 18446744073709551616 + lo) = hi * p * 18446744073709551616 + lo * p := by grind
      rw [this, elo]; omega
    generalize hx2 : y * p = x2 at *
    generalize hu : hi * p + h = u at *
    have hw : 0 ≤ l * p ∧ l * p < 18446744073709551616 := ⟨lp0, lp1⟩
    generalize l * p = v at *
    have hu' : 0 ≤ u ∧ u < x2 := by omega
    -- the first digit
    have g := Guess.first (u := u) (d := v / 4294967296) (y1 := x2 / 4294967296) (y0 := x2 % 4294967296) (by omega) (by omega) (by omega) (by omega)
    have ex2 : x2 / 4294967296 * 4294967296 + x2 % 4294967296 = x2 := by omega
    rw [ex2] at g
    have gQ := g.hQ; have gQ0 := g.hQ0; have gQ1 := g.hQ1
    rw [ex2] at gQ0 gQ1
    have f := Int.mul_ediv_add_emod u (x2 / 4294967296)
    have f0 := Int.ediv_nonneg hu'.1 (show 0 ≤ x2 / 4294967296 by omega)
    have f1 := g.hqB
    have f2 := g.hr
    have f3 := Int.mul_nonneg (show 0 ≤ x2 / 4294967296 by omega) f0
    refine Ev.neg (by omega) ?_
    rw [Int.tdiv_eq_ediv_of_nonneg hu'.1, u64w f0 (by omega), Int.mul_comm (u / (x2 / 4294967296)), u64w (x := x2 / 4294967296 * (u / (x2 / 4294967296))) (by omega) (by omega),
      show u - x2 / 4294967296 * (u / (x2 / 4294967296)) = u % (x2 / 4294967296) by omega, u64w f2.1 (by omega)]
    refine digit0 ?_ _ _ g
    clear g f f0 f1 f2 f3
    generalize (u * 4294967296 + v / 4294967296) / x2 = Q at *
    refine Ev.step (fun k => by rw [bits_Div64.j2]) ?_
    refine Ev.neg (by omega) ?_
    have e21 : IntKind.u64.wrap (IntKind.u64.wrap (IntKind.u64.wrap (u * 4294967296) + v / 4294967296) - IntKind.u64.wrap (Q * x2)) = u * 4294967296 + v / 4294967296 - Q * x2 := by
      simp only [IntKind.wrap_u64]; omega
    rw [e21]
    generalize hw21 : u * 4294967296 + v / 4294967296 - Q * x2 = u2 at *
    have hu2 : 0 ≤ u2 ∧ u2 < x2 := by omega
    -- the second digit
    have g := Guess.first (u := u2) (d := v % 4294967296) (y1 := x2 / 4294967296) (y0 := x2 % 4294967296) (by omega) (by omega) (by omega) (by omega)
    rw [ex2] at g
    have hQ := g.hQ; have hQ0 := g.hQ0; have hQ1 := g.hQ1
    rw [ex2] at hQ0 hQ1
    have f := Int.mul_ediv_add_emod u2 (x2 / 4294967296)
    have f0 := Int.ediv_nonneg hu2.1 (show 0 ≤ x2 / 4294967296 by omega)
    have f1 := g.hqB
    have f2 := g.hr
    have f3 := Int.mul_nonneg (show 0 ≤ x2 / 4294967296 by omega) f0
    rw [Int.tdiv_eq_ediv_of_nonneg hu2.1, u64w f0 (by omega), Int.mul_comm (u2 / (x2 / 4294967296)), u64w (x := x2 / 4294967296 * (u2 / (x2 / 4294967296))) (by omega) (by omega),
      show u2 - x2 / 4294967296 * (u2 / (x2 / 4294967296)) = u2 % (x2 / 4294967296) by omega, u64w f2.1 (by omega)]
    have fin := digit1 (x2 := x2) (x8 := (s : Int)) (x15 := Q) (by omega) _ _ g
    clear g f f0 f1 f2 f3
    generalize (u2 * 4294967296 + v % 4294967296) / x2 = Q2 at *
    have eR : FINS x2 s (v % 4294967296) Q u2 Q2 = ((hi * 18446744073709551616 + lo) / y, (hi * 18446744073709551616 + lo) % y) := by
      unfold FINS
      have e0 : IntKind.u64.wrap (IntKind.u64.wrap (IntKind.u64.wrap (u2 * 4294967296) + v % 4294967296) - IntKind.u64.wrap (Q2 * x2)) = u2 * 4294967296 + v % 4294967296 - Q2 * x2 := by
        simp only [IntKind.wrap_u64]; omega
      rw [e0, shr_eq (by omega), hp, u64w (x := Q * 4294967296) (by omega) (by omega), u64w (by omega) (by omega)]
      have er : u2 * 4294967296 + v % 4294967296 - Q2 * x2 = p * (hi * 18446744073709551616 + lo - (Q * 4294967296 + Q2) * y) := by
        have : p * (hi * 18446744073709551616 + lo - (Q * 4294967296 + Q2) * y) = p * (hi * 18446744073709551616 + lo) - (Q * 4294967296 + Q2) * (y * p) := by grind
        rw [this, ← eN, hx2, ← hw21]
        have : (Q * 4294967296 + Q2) * x2 = Q * x2 * 4294967296 + Q2 * x2 := by grind
        rw [this]
        omega
      rw [er, Int.mul_ediv_cancel_left _ (by omega)]
      have hb0 : 0 ≤ p * (hi * 18446744073709551616 + lo - (Q * 4294967296 + Q2) * y) := by rw [← er]; omega
      have hb1 : p * (hi * 18446744073709551616 + lo - (Q * 4294967296 + Q2) * y) < p * y := by rw [← er, Int.mul_comm p y, hx2]; omega
      have r0 : 0 ≤ hi * 18446744073709551616 + lo - (Q * 4294967296 + Q2) * y := Int.le_of_mul_le_mul_left (by rw [Int.mul_zero]; exact hb0) p0
      have r1 : hi * 18446744073709551616 + lo - (Q * 4294967296 + Q2) * y < y := Int.lt_of_mul_lt_mul_left hb1 (by omega)
      have := div_unique (n := hi * 18446744073709551616 + lo) (y := y) (q := Q * 4294967296 + Q2) (by omega) r0 r1
      exact Prod.ext this.1 this.2
    rw [eR] at fin
    exact fin
def rndUp (p d : Int) : Int := if p / d ≥ 4611686018427387903 then 4611686018427387904 else if p % d ≥ d - p % d then p / d + 1 else p / d
def rndDown (p d : Int) : Int := if p / d ≥ 4611686018427387903 then 4611686018427387904 else if p % d > d - p % d then p / d + 1 else p / d
def nearS (a b d : Int) : Int := if a < 0 then -rndDown (-a * b) d else rndUp (a * b) d
theorem near_ev {a b d : Int} (ha0 : -1000000000000 ≤ a) (ha1 : a ≤ 1000000000000) (hb0 : 1 ≤ b) (hb1 : b ≤ 1000000000000) (hd0 : 1 ≤ d) (hd1 : d ≤ 1000000000000) :
    Ev (fun k => kit_Nearest.f k a b d) (nearS a b d) := by
  unfold kit_Nearest.f
  have eb : kit_amount.f b = some b := by rw [amount_eq (by omega) (by omega)]; unfold amt; rw [if_neg (by omega)]
  have main : ∀ p : Int, 0 ≤ p → p ≤ 1000000000000000000000000 → d ≠ 0 ∧ 0 ≤ p / d ∧ 0 ≤ p % d ∧ p % d < d := fun p h0 h1 => ⟨by omega, Int.ediv_nonneg h0 (by omega), Int.emod_nonneg p (by omega), Int.emod_lt_of_pos p (by omega)⟩
  have dv : ∀ p : Int, 0 ≤ p → p ≤ 1000000000000000000000000 → ¬ p / 18446744073709551616 ≥ d → Ev (fun k => bits_Div64.f k (p / 18446744073709551616) (p % 18446744073709551616) d) (p / d, p % d) := by
    intro p h0 h1 h
    have e := div_ev (hi := p / 18446744073709551616) (lo := p % 18446744073709551616) (y := d) (by omega) (by omega) (by omega)
    rw [show p / 18446744073709551616 * 18446744073709551616 + p % 18446744073709551616 = p by omega] at e
    exact e
  have big : ∀ p : Int, 0 ≤ p → p / 18446744073709551616 ≥ d → p / d ≥ 4611686018427387903 := by
    intro p h0 h
    have m := Int.mul_ediv_add_emod p d
    have m1 := Int.emod_lt_of_pos p (show 0 < d by omega)
    refine Int.le_of_not_gt fun h => ?_
    have := Int.mul_le_mul_of_nonneg_left (show p / d ≤ 4611686018427387902 by omega) (show 0 ≤ d by omega)
    omega
  by_cases hs : a < 0
  · refine Ev.pos hs (Ev.neg (by omega) ?_)
    have ea : kit_amount.f a = some (-a) := by rw [amount_eq (by omega) (by omega)]; unfold amt; rw [if_pos hs]
    obtain ⟨p0, p1⟩ := mul_bound (a := -a) (b := b) (n := 1000000000000) (m := 1000000000000) (by omega) (by omega) (by omega) hb1
    simp only [ea, eb, mul_eq (x := -a) (y := b) (by omega) (by omega) (by omega) (by omega), Option.bind_some, u64w (x := d) (by omega) (by omega)]
    unfold nearS rndDown
    rw [if_pos hs]
    generalize -a * b = p at *
    obtain ⟨d0, q0, r0, r1⟩ := main p p0 (by omega)
    by_cases c : p / 18446744073709551616 ≥ d
    · refine Ev.pos c (Ev.some ?_)
      rw [if_pos (big p p0 c)]
    · refine Ev.neg c (Ev.bind (dv p p0 (by omega) c) ?_)
      dsimp only
      by_cases e : p / d ≥ 4611686018427387903
      · refine Ev.pos e (Ev.some ?_)
        rw [if_pos e]
      · refine Ev.neg e ?_
        rw [if_neg e, u64w (x := d - p % d) (by omega) (by omega)]
        by_cases g : p % d > d - p % d
        · refine Ev.pos g (Ev.some ?_)
          rw [if_pos g, u64w (x := p / d + 1) (by omega) (by omega), w64 (x := p / d + 1) (by omega) (by omega), w64 (by omega) (by omega)]
        · refine Ev.neg g (Ev.some ?_)
          rw [if_neg g, w64 (x := p / d) (by omega) (by omega), w64 (by omega) (by omega)]
  · refine Ev.neg hs (Ev.neg (by omega) ?_)
    have ea : kit_amount.f a = some a := by rw [amount_eq (by omega) (by omega)]; unfold amt; rw [if_neg hs]
    obtain ⟨p0, p1⟩ := mul_bound (a := a) (b := b) (n := 1000000000000) (m := 1000000000000) (by omega) (by omega) (by omega) hb1
    simp only [ea, eb, mul_eq (x := a) (y := b) (by omega) (by omega) (by omega) (by omega), Option.bind_some, u64w (x := d) (by omega) (by omega)]
    unfold nearS rndUp
    rw [if_neg hs]
    generalize a * b = p at *
    obtain ⟨d0, q0, r0, r1⟩ := main p p0 (by omega)
    by_cases c : p / 18446744073709551616 ≥ d
    · refine Ev.pos c (Ev.some ?_)
      rw [if_pos (big p p0 c)]
    · refine Ev.neg c (Ev.bind (dv p p0 (by omega) c) ?_)
      dsimp only
      by_cases e : p / d ≥ 4611686018427387903
      · refine Ev.pos e (Ev.some ?_)
        rw [if_pos e]
      · refine Ev.neg e ?_
        rw [if_neg e, u64w (x := d - p % d) (by omega) (by omega)]
        by_cases g : p % d ≥ d - p % d
        · refine Ev.pos g (Ev.some ?_)
          rw [if_pos g, u64w (x := p / d + 1) (by omega) (by omega), w64 (by omega) (by omega)]
        · refine Ev.neg g (Ev.some ?_)
          rw [if_neg g, w64 (by omega) (by omega)]
theorem rnd_facts {p d : Int} (h0 : 0 ≤ p) (hd : 0 < d) : 0 ≤ p / d ∧ 0 ≤ p % d ∧ p % d < d ∧ d * (p / d) + p % d = p :=
  ⟨Int.ediv_nonneg h0 (by omega), Int.emod_nonneg p (by omega), Int.emod_lt_of_pos p hd, Int.mul_ediv_add_emod p d⟩
theorem rnd_range {p d : Int} (h0 : 0 ≤ p) (hd : 0 < d) : (0 ≤ rndUp p d ∧ rndUp p d ≤ 4611686018427387904) ∧ (0 ≤ rndDown p d ∧ rndDown p d ≤ 4611686018427387904) := by
  obtain ⟨a, b, c, e⟩ := rnd_facts h0 hd
  unfold rndUp rndDown
  constructor <;> split <;> (try split) <;> omega
theorem rnd_mono {p q d : Int} (h0 : 0 ≤ p) (h : p ≤ q) (hd : 0 < d) : rndUp p d ≤ rndUp q d ∧ rndDown p d ≤ rndDown q d := by
  obtain ⟨a, b, c, e⟩ := rnd_facts h0 hd
  obtain ⟨a', b', c', e'⟩ := rnd_facts (show 0 ≤ q by omega) hd
  have hq : p / d ≤ q / d := Int.ediv_le_ediv hd h
  by_cases heq : p / d = q / d
  · have : p % d ≤ q % d := by rw [heq] at e; omega
    unfold rndUp rndDown
    rw [heq]
    constructor <;> split <;> (try split) <;> (try split) <;> omega
  · unfold rndUp rndDown
    constructor <;> split <;> (try split) <;> (try split) <;> (try split) <;> omega
theorem near_range {a b d : Int} (hb : 0 ≤ b) (hd : 0 < d) : -4611686018427387904 ≤ nearS a b d ∧ nearS a b d ≤ 4611686018427387904 ∧ (a < 0 → nearS a b d ≤ 0) ∧ (0 ≤ a → 0 ≤ nearS a b d) := by
  unfold nearS
  split
  · have := (rnd_range (p := -a * b) (Int.mul_nonneg (by omega) hb) hd).2
    refine ⟨by omega, by omega, fun _ => by omega, fun _ => by omega⟩
  · have := (rnd_range (p := a * b) (Int.mul_nonneg (by omega) hb) hd).1
    refine ⟨by omega, by omega, fun _ => by omega, fun _ => by omega⟩
theorem near_mono {a c b d : Int} (h : a ≤ c) (hb : 0 ≤ b) (hd : 0 < d) : nearS a b d ≤ nearS c b d := by
  have ra := near_range (a := a) hb hd
  have rc := near_range (a := c) hb hd
  by_cases ha : a < 0
  · by_cases hc : c < 0
    · unfold nearS
      rw [if_pos ha, if_pos hc]
      have := (rnd_mono (p := -c * b) (q := -a * b) (Int.mul_nonneg (by omega) hb) (Int.mul_le_mul_of_nonneg_right (by omega) hb) hd).2
      omega
    · have := ra.2.2.1 ha
      have := rc.2.2.2 (by omega)
      omega
  · unfold nearS
    rw [if_neg ha, if_neg (by omega)]
    exact (rnd_mono (Int.mul_nonneg (by omega) hb) (Int.mul_le_mul_of_nonneg_right h hb) hd).1
theorem near_full {b d : Int} (hd : 0 < d) (hb : b ≤ 1000000000000) : nearS d b d = b := by
  unfold nearS rndUp
  rw [if_neg (by omega), Int.mul_ediv_cancel_left _ (by omega), Int.mul_emod_right, if_neg (by omega), if_neg (by omega)]
abbrev at_ (m : List S33) (i : Nat) : S33 := m.getD i z33
theorem marksGo_inc : ∀ (t : List S33) (p q : Int), marksGo p q t = 0 → (∀ j, j < t.length → p < (at_ t j).f0 ∧ q < (at_ t j).f1) ∧ (∀ i j, i < j → j < t.length → (at_ t i).f0 < (at_ t j).f0 ∧ (at_ t i).f1 < (at_ t j).f1)
  | [], p, q, _ => ⟨fun j h => by simp at h, fun i j _ h => by simp at h⟩
  | x :: t, p, q, h => by
    unfold marksGo at h
    split at h
    · split at h
      · cases h
      · rename_i h1 h2
        obtain ⟨a, b⟩ := marksGo_inc t _ _ h
        constructor
        · intro j hj
          cases j with
          | zero => show p < x.f0 ∧ q < x.f1; omega
          | succ j =>
            have := a j (by simpa using hj)
            show p < (at_ t j).f0 ∧ q < (at_ t j).f1
            omega
        · intro i j hij hj
          cases j with
          | zero => omega
          | succ j =>
            cases i with
            | zero => exact a j (by simpa using hj)
            | succ i => exact b i j (by omega) (by simpa using hj)
    · cases h
structure Good (m : List S33) : Prop where
  pos : 0 < m.length
  most : m.length ≤ 2000
  ok : ∀ i, i < m.length → markOk (at_ m i)
  inc : ∀ i j, i < j → j < m.length → (at_ m i).f0 < (at_ m j).f0 ∧ (at_ m i).f1 < (at_ m j).f1
theorem Good.of {m : List S33} (h : marksS m = 0) : Good m := by
  obtain ⟨a, b, c⟩ := marksS_ok h
  refine ⟨a, b, fun i hi => ?_, (marksGo_inc m _ _ c).2⟩
  have : at_ m i = m[i] := by simp [at_, hi]
  rw [this]
  exact marksGo_ok m _ _ c _ (List.getElem_mem hi)
theorem Good.le {m : List S33} (g : Good m) {i j : Nat} (h : i ≤ j) (hj : j < m.length) : (at_ m i).f0 ≤ (at_ m j).f0 ∧ (at_ m i).f1 ≤ (at_ m j).f1 := by
  rcases Nat.lt_or_eq_of_le h with h | rfl
  · have := g.inc i j h hj; omega
  · omega
structure IsCnt (m : List S33) (t : Int) (n : Nat) : Prop where
  le : n ≤ m.length
  lo : ∀ i, i < n → (at_ m i).f0 < t
  hi : ∀ i, n ≤ i → i < m.length → t ≤ (at_ m i).f0
def cnt (m : List S33) (t : Int) : Nat := (m.filter fun x => decide (x.f0 < t)).length
theorem cnt_of : ∀ {m : List S33} {t : Int} {n : Nat}, IsCnt m t n → cnt m t = n
  | [], t, n, h => by have := h.le; simp at this; subst this; rfl
  | x :: m, t, 0, h => by
    have h0 : t ≤ x.f0 := h.hi 0 (Nat.le_refl 0) (by simp)
    have ih := cnt_of (m := m) (t := t) (n := 0) ⟨Nat.zero_le _, fun i hi => absurd hi (Nat.not_lt_zero _), fun i _ hl => h.hi (i + 1) (Nat.zero_le _) (by simpa using hl)⟩
    unfold cnt at ih ⊢
    rw [List.filter_cons_of_neg (by simp; omega)]
    exact ih
  | x :: m, t, n + 1, h => by
    have h0 : x.f0 < t := h.lo 0 (Nat.succ_pos n)
    have ih := cnt_of (m := m) (t := t) (n := n) ⟨by have := h.le; simp at this; exact this, fun i hi => h.lo (i + 1) (by omega), fun i hn hl => h.hi (i + 1) (by omega) (by simpa using hl)⟩
    unfold cnt at ih ⊢
    rw [List.filter_cons_of_pos (by simpa using h0), List.length_cons, ih]
theorem bs_loop {m : List S33} (g : Good m) {t : Int} (t0 : 0 ≤ t) (t1 : t ≤ 1000000000001) (i j : Nat) (hij : i ≤ j) (hj : j ≤ m.length) (lo : ∀ a, a < i → (at_ m a).f0 < t) (hi : ∀ a, j ≤ a → a < m.length → t ≤ (at_ m a).f0) :
    ∃ (n : Nat) (b : Bool), IsCnt m t n ∧ Ev (fun k => api_Mark_int.l0 k m t (m.length : Int) (i : Int) (j : Int)) ((n : Int), b) := by
  have hm := g.most
  by_cases h : i < j
  · have eh : wrap64 (IntKind.u64.wrap (wrap64 ((i : Int) + j)) / 2) = (((i + j) / 2 : Nat) : Int) := by
      rw [w64 (x := (i : Int) + j) (by omega) (by omega), u64w (by omega) (by omega), w64 (by omega) (by omega)]
      omega
    have hlt : (i + j) / 2 < m.length := by omega
    have ok := g.ok _ hlt
    have eat : rd_T33 m (((i + j) / 2 : Nat) : Int) = at_ m ((i + j) / 2) := rfl
    have ec : ∀ x1 x2 : Int, clock_line_1.f (at_ m ((i + j) / 2)).f0 x1 x2 t = some ((at_ m ((i + j) / 2)).f0 - t) := by
      intro x1 x2
      unfold clock_line_1.f
      rw [w64 (by have := ok.1; omega) (by have := ok.1; omega)]
    by_cases c : (at_ m ((i + j) / 2)).f0 < t
    · obtain ⟨n, b, hn, e⟩ := bs_loop g t0 t1 ((i + j) / 2 + 1) j (by omega) hj (fun a ha => by
        by_cases h2 : a = (i + j) / 2
        · rw [h2]; exact c
        · have := g.inc a ((i + j) / 2) (by omega) hlt; omega) hi
      refine ⟨n, b, hn, Ev.step (fun k => by rw [api_Mark_int.l0]) ?_⟩
      refine Ev.pos (by omega) ?_
      simp only [eh, eat, ec, Option.bind_some]
      refine Ev.pos (by omega) (Ev.pos (by omega) (Ev.pos (by omega) ?_))
      rw [w64 (by omega) (by omega), show (((i + j) / 2 : Nat) : Int) + 1 = (((i + j) / 2 + 1 : Nat) : Int) by omega]
      exact e
    · obtain ⟨n, b, hn, e⟩ := bs_loop g t0 t1 i ((i + j) / 2) (by omega) (by omega) lo (fun a h1 h2 => by
        by_cases h3 : a = (i + j) / 2
        · rw [h3]; omega
        · have := g.inc ((i + j) / 2) a (by omega) h2; omega)
      refine ⟨n, b, hn, Ev.step (fun k => by rw [api_Mark_int.l0]) ?_⟩
      refine Ev.pos (by omega) ?_
      simp only [eh, eat, ec, Option.bind_some]
      exact Ev.pos (by omega) (Ev.pos (by omega) (Ev.neg (by omega) e))
  · obtain rfl : i = j := by omega
    have hc : IsCnt m t i := ⟨hj, lo, hi⟩
    by_cases c : i < m.length
    · refine ⟨i, (wrap64 ((rd_T33 m (i : Int)).f0 - t) == 0), hc, Ev.step (fun k => by rw [api_Mark_int.l0]) ?_⟩
      exact Ev.neg (by omega) (Ev.pos (by omega) (Ev.pos (by omega) (Ev.pos (by omega) (Ev.bind (Ev.some rfl) (Ev.now _)))))
    · refine ⟨i, false, hc, Ev.step (fun k => by rw [api_Mark_int.l0]) ?_⟩
      exact Ev.neg (by omega) (Ev.neg (by omega) (Ev.now _))
termination_by j - i
theorem bs_ev {m : List S33} (g : Good m) {t : Int} (t0 : 0 ≤ t) (t1 : t ≤ 1000000000001) (x : Bool) : ∃ b : Bool, IsCnt m t (cnt m t) ∧ Ev (fun k => api_Mark_int.f k m t x) ((cnt m t : Int), b) := by
  obtain ⟨n, b, hn, e⟩ := bs_loop g t0 t1 0 m.length (Nat.zero_le _) (Nat.le_refl _) (fun a h => absurd h (Nat.not_lt_zero _)) (fun a h1 h2 => absurd h1 (Nat.not_le_of_lt h2))
  rw [cnt_of hn]
  exact ⟨b, hn, e⟩
structure LineOf (m : List S33) (tick : Int) (i : Nat) : Prop where
  lt : i + 1 < m.length
  up : tick < (at_ m (i + 1)).f0 ∨ i + 2 = m.length
  down : (at_ m i).f0 ≤ tick ∨ i = 0
def lineS (m : List S33) (tick : Int) : Nat := min (cnt m (tick + 1) - 1) (m.length - 2)
theorem line_ev {m : List S33} (g : Good m) (h2 : 2 ≤ m.length) {tick : Int} (t0 : 0 ≤ tick) (t1 : tick ≤ 1000000000000) : LineOf m tick (lineS m tick) ∧ Ev (fun k => clock_line.f k m tick) (lineS m tick : Int) := by
  obtain ⟨b, hn, e⟩ := bs_ev g (t := tick + 1) (by omega) (by omega) true
  have hm := g.most
  have hle := hn.le
  constructor
  · unfold lineS
    generalize cnt m (tick + 1) = n at *
    refine ⟨by omega, ?_, ?_⟩
    · by_cases c : min (n - 1) (m.length - 2) + 2 = m.length
      · exact .inr c
      · left
        have := hn.hi (min (n - 1) (m.length - 2) + 1) (by omega) (by omega)
        omega
    · by_cases c : min (n - 1) (m.length - 2) = 0
      · exact .inr c
      · left
        have := hn.lo (min (n - 1) (m.length - 2)) (by omega)
        omega
  · unfold clock_line.f
    rw [w64 (x := tick + 1) (by omega) (by omega)]
    refine Ev.bind e (Ev.some ?_)
    unfold lineS mn mx
    generalize cnt m (tick + 1) = n at *
    rw [w64 (by omega) (by omega), w64 (by omega) (by omega)]
    split <;> split <;> omega
def segS (m : List S33) (i : Nat) (tick : Int) : Int := (at_ m i).f1 + nearS (tick - (at_ m i).f0) ((at_ m (i + 1)).f1 - (at_ m i).f1) ((at_ m (i + 1)).f0 - (at_ m i).f0)
def atS (m : List S33) (tick : Int) : Int := segS m (lineS m tick) tick
theorem seg_low {m : List S33} (g : Good m) {i : Nat} (hi : i + 1 < m.length) {tick : Int} (h : (at_ m i).f0 ≤ tick) : (at_ m i).f1 ≤ segS m i tick := by
  have hs := g.inc i (i + 1) (by omega) hi
  have := (near_range (a := tick - (at_ m i).f0) (b := (at_ m (i + 1)).f1 - (at_ m i).f1) (d := (at_ m (i + 1)).f0 - (at_ m i).f0) (by omega) (by omega)).2.2.2 (by omega)
  unfold segS
  omega
theorem seg_high {m : List S33} (g : Good m) {i : Nat} (hi : i + 1 < m.length) {tick : Int} (h : tick ≤ (at_ m (i + 1)).f0) : segS m i tick ≤ (at_ m (i + 1)).f1 := by
  have hs := g.inc i (i + 1) (by omega) hi
  have ok := g.ok i (by omega)
  have ok' := g.ok (i + 1) hi
  have := near_mono (a := tick - (at_ m i).f0) (c := (at_ m (i + 1)).f0 - (at_ m i).f0) (b := (at_ m (i + 1)).f1 - (at_ m i).f1) (d := (at_ m (i + 1)).f0 - (at_ m i).f0) (by omega) (by omega) (by omega)
  rw [near_full (by omega) (by have := ok.2.1; have := ok'.2.1; omega)] at this
  unfold segS
  omega
theorem seg_mono {m : List S33} (g : Good m) {i : Nat} (hi : i + 1 < m.length) {t u : Int} (h : t ≤ u) : segS m i t ≤ segS m i u := by
  have hs := g.inc i (i + 1) (by omega) hi
  have := near_mono (a := t - (at_ m i).f0) (c := u - (at_ m i).f0) (b := (at_ m (i + 1)).f1 - (at_ m i).f1) (d := (at_ m (i + 1)).f0 - (at_ m i).f0) (by omega) (by omega) (by omega)
  unfold segS
  omega
theorem at_mono {m : List S33} (g : Good m) (h2 : 2 ≤ m.length) {t u : Int} (t0 : 0 ≤ t) (u1 : u ≤ 1000000000000) (h : t ≤ u) : atS m t ≤ atS m u := by
  have a := (line_ev g h2 t0 (by omega)).1
  have b := (line_ev g h2 (by omega) u1).1
  unfold atS
  generalize lineS m t = i at *
  generalize lineS m u = j at *
  have a1 := a.lt; have a2 := a.up; have a3 := a.down; have b1 := b.lt; have b2 := b.up; have b3 := b.down
  by_cases c : i = j
  · subst c
    exact seg_mono g a1 h
  · by_cases d : i < j
    · have e1 := seg_high g a1 (tick := t) (by omega)
      have e2 := seg_low g b1 (tick := u) (by omega)
      have := g.le (i := i + 1) (j := j) d (by omega)
      omega
    · have := g.le (i := j + 1) (j := i) (by omega) (by omega)
      omega
theorem at_ev {m : List S33} (g : Good m) (h2 : 2 ≤ m.length) {tick : Int} (t0 : 0 ≤ tick) (t1 : tick ≤ 1000000000000) : Ev (fun k => clock_at.f k m tick) (atS m tick) := by
  obtain ⟨a, e⟩ := line_ev g h2 t0 t1
  have hm := g.most
  unfold clock_at.f
  refine Ev.bind e ?_
  unfold atS segS
  generalize lineS m tick = i at *
  have a1 := a.lt
  have hs := g.inc i (i + 1) (by omega) a1
  have ok := g.ok i (by omega)
  have ok' := g.ok (i + 1) a1
  obtain ⟨⟨o1, o2⟩, ⟨o3, o4⟩, _⟩ := ok
  obtain ⟨⟨v1, v2⟩, ⟨v3, v4⟩, _⟩ := ok'
  rw [w64 (x := (i : Int) + 1) (by omega) (by omega), show (i : Int) + 1 = ((i + 1 : Nat) : Int) by omega]
  refine Ev.pos (by omega) (Ev.pos (by omega) (Ev.pos (by omega) (Ev.pos (by omega) ?_)))
  have r1 : rd_T33 m (i : Int) = at_ m i := rfl
  have r2 : rd_T33 m ((i + 1 : Nat) : Int) = at_ m (i + 1) := rfl
  rw [r1, r2, w64 (x := tick - (at_ m i).f0) (by omega) (by omega), w64 (x := (at_ m (i + 1)).f1 - (at_ m i).f1) (by omega) (by omega), w64 (x := (at_ m (i + 1)).f0 - (at_ m i).f0) (by omega) (by omega)]
  refine Ev.bind (near_ev (by omega) (by omega) (by omega) (by omega) (by omega) (by omega)) (Ev.some ?_)
  have := near_range (a := tick - (at_ m i).f0) (b := (at_ m (i + 1)).f1 - (at_ m i).f1) (d := (at_ m (i + 1)).f0 - (at_ m i).f0) (by omega) (by omega)
  exact w64 (by omega) (by omega)
def timeS (m : List S33) (tick : Int) : Int × Int :=
  if marksS m = 0 then (if 0 ≤ tick ∧ tick ≤ 1000000000000 then (if m.length = 1 then (0, 11) else (if 0 ≤ atS m tick ∧ atS m tick ≤ 1000000000000 then (atS m tick, 0) else (0, 1))) else (0, 1)) else (0, marksS m)
theorem time_ev (m : List S33) (tick : Int) : Ev (fun k => clock_TimeOf.f k m tick) (timeS m tick) := by
  unfold clock_TimeOf.f timeS
  refine Ev.bind (marks_ev m) ?_
  by_cases h : marksS m = 0
  · refine Ev.pos h ?_
    rw [if_pos h]
    have g := Good.of h
    simp only [In_eq, Option.bind_some, decide_eq_true_eq]
    by_cases ht : 0 ≤ tick ∧ tick ≤ 1000000000000
    · refine Ev.pos ht ?_
      rw [if_pos ht]
      by_cases h1 : m.length = 1
      · refine Ev.pos (by omega) ?_
        rw [if_pos h1]
        exact Ev.now _
      · refine Ev.neg (by omega) ?_
        rw [if_neg h1]
        refine Ev.bind (at_ev g (by have := g.pos; omega) ht.1 ht.2) ?_
        by_cases hn : 0 ≤ atS m tick ∧ atS m tick ≤ 1000000000000
        · refine Ev.pos hn ?_
          rw [if_pos hn]
          exact Ev.now _
        · refine Ev.neg hn ?_
          rw [if_neg hn]
          exact Ev.now _
    · refine Ev.neg ht ?_
      rw [if_neg ht]
      exact Ev.now _
  · refine Ev.neg h ?_
    rw [if_neg h]
    exact Ev.now _
theorem time_ok {m : List S33} {tick : Int} (h : (timeS m tick).2 = 0) : Good m ∧ 2 ≤ m.length ∧ (0 ≤ tick ∧ tick ≤ 1000000000000) ∧ (0 ≤ atS m tick ∧ atS m tick ≤ 1000000000000) ∧ timeS m tick = (atS m tick, 0) := by
  unfold timeS at h ⊢
  by_cases h0 : marksS m = 0
  · rw [if_pos h0] at h ⊢
    have g := Good.of h0
    have := g.pos
    by_cases ht : 0 ≤ tick ∧ tick ≤ 1000000000000
    · rw [if_pos ht] at h ⊢
      by_cases h1 : m.length = 1
      · rw [if_pos h1] at h; cases h
      · rw [if_neg h1] at h ⊢
        by_cases hn : 0 ≤ atS m tick ∧ atS m tick ≤ 1000000000000
        · rw [if_pos hn]
          exact ⟨g, by omega, ht, hn, rfl⟩
        · rw [if_neg hn] at h; cases h
    · rw [if_neg ht] at h; cases h
  · rw [if_neg h0] at h; exact absurd h h0
theorem turns_ev : Ev (fun k => perigeetop_turns.f k) true := Ev.of perigeetop_turns.mono (k := 5) (by decide +kernel)
theorem turns_fin : Ev (fun k => (perigeetop_turns.f k).bind fun t => some t) true := Ev.bind turns_ev (Ev.now _)
theorem top_times (m : List S33) (l y : List Int) (b : Bool) (hb : b = true → y = l) (hl : y.length ≤ 5000) :
    ∀ (t pre : List Int) (q last : Int) (any : Bool), y = pre ++ t → chain q t → (any = true → ∃ p, p ≤ q ∧ (timeS m p).2 = 0 ∧ last = (timeS m p).1) →
      Ev (fun k => perigeetop_TopReadingsHaveTimes.l1 k m l b y last any pre.length) true
  | [], pre, q, last, any, hp, _, _ => by
    refine Ev.step (fun k => by rw [perigeetop_TopReadingsHaveTimes.l1]) ?_
    exact Ev.neg (by rw [hp]; simp) turns_fin
  | n :: t, pre, q, last, any, hp, hc, hany => by
    have hlen : pre.length < y.length := by rw [hp]; simp
    have hrd : rd y pre.length = n := by rw [hp]; exact rd_mid ..
    obtain ⟨n0, n1, hqn, hc'⟩ := hc
    have hw : wrap64 ((pre.length : Int) + 1) = ((pre ++ [n]).length : Int) := by rw [w64 (by omega) (by omega)]; simp
    have next := top_times m l y b hb hl t (pre ++ [n]) n
    have j3 : Ev (fun k => perigeetop_TopReadingsHaveTimes.j3 k m l b y last any pre.length (timeS m n).1 (timeS m n).2) true := by
      refine Ev.step (fun k => by rw [perigeetop_TopReadingsHaveTimes.j3]) ?_
      by_cases h : (timeS m n).2 = 0
      · refine Ev.pos h ?_
        have go : Ev (fun k => perigeetop_TopReadingsHaveTimes.l1 k m l b y (timeS m n).1 true (wrap64 ((pre.length : Int) + 1))) true := by
          rw [hw]
          exact next _ true (by simp [hp]) hc' (fun _ => ⟨n, Int.le_refl n, h, rfl⟩)
        by_cases ha : any = true
        · refine Ev.pos ha (Ev.neg ?_ go)
          obtain ⟨p, hpq, hp0, rfl⟩ := hany ha
          obtain ⟨g, h2, hpr, _, e⟩ := time_ok hp0
          obtain ⟨_, _, hnr, _, e'⟩ := time_ok h
          rw [e, e']
          have := at_mono g h2 hpr.1 hnr.2 (show p ≤ n by omega)
          show ¬ atS m n < atS m p
          omega
        · exact Ev.neg ha go
      · refine Ev.neg h ?_
        rw [hw]
        refine next last any (by simp [hp]) hc' (fun ha => ?_)
        obtain ⟨p, hpq, r⟩ := hany ha
        exact ⟨p, by omega, r⟩
    refine Ev.step (fun k => by rw [perigeetop_TopReadingsHaveTimes.l1]) ?_
    refine Ev.pos (by omega) (Ev.pos (by omega) ?_)
    simp only [hrd]
    refine Ev.bind (time_ev m n) ?_
    by_cases hbt : b = true
    · refine Ev.pos hbt ?_
      have e := hb hbt
      have hrd' : rd l pre.length = n := by rw [← e]; exact hrd
      simp only [hrd']
      exact Ev.pos (by rw [← e]; omega) (Ev.bind (time_ev m n) (Ev.pos rfl (Ev.pos rfl j3)))
    · exact Ev.neg hbt j3
theorem top_near (m : List S33) (l raw : List Int) (a : Int) (hl : l.length ≤ 5000) (ha0 : 4 ≤ a) (ha1 : a ≤ 40) (hb : ∀ x ∈ l, 0 ≤ x ∧ x ≤ 1000000000000)
    (H : ∀ b : Bool, (b = true → near (2 ^ a.toNat) 0 l) → (near (2 ^ a.toNat) 0 l → b = true) → Ev (fun k => perigeetop_TopReadingsHaveTimes.l0 k m l a raw b l.length) true) :
    ∀ (t pre : List Int) (p : Int) (b : Bool), l = pre ++ p :: t → (b = true ∧ near (2 ^ a.toNat) p t ↔ near (2 ^ a.toNat) 0 l) →
      Ev (fun k => perigeetop_TopReadingsHaveTimes.l0 k m l a raw b ((pre.length : Int) + 1)) true
  | [], pre, p, b, hp, hn => by
    have := H b (fun h => hn.mp ⟨h, trivial⟩) (fun h => (hn.mpr h).1)
    rw [show (l.length : Int) = (pre.length : Int) + 1 by rw [hp]; simp] at this
    exact this
  | n :: t, pre, p, b, hp, hn => by
    have hlen : pre.length + 1 < l.length := by rw [hp]; simp
    have hrd : rd l pre.length = p := by rw [hp]; exact rd_mid ..
    have hrd' : rd l ((pre.length : Int) + 1) = n := by rw [hp, show pre ++ p :: n :: t = (pre ++ [p]) ++ n :: t by simp]; exact rd_mid' _ _ _ (by simp)
    have hnb := hb n (by rw [hp]; simp)
    have hpb := hb p (by rw [hp]; simp)
    have hm := two_pow_ge (n := a.toNat) (by omega)
    have hw : wrap64 ((pre.length : Int) + 1 + 1) = ((pre ++ [p]).length : Int) + 1 := by rw [w64 (by omega) (by omega)]; simp
    refine Ev.step (fun k => by rw [perigeetop_TopReadingsHaveTimes.l0]) ?_
    rw [w64 (show -9223372036854775808 ≤ (pre.length : Int) + 1 - 1 by omega) (by omega), show (pre.length : Int) + 1 - 1 = pre.length by omega]
    simp only [hrd, hrd', u64_small (show 0 ≤ a by omega) (by omega), shl_one ha0 ha1, hw]
    rw [w64 (show -9223372036854775808 ≤ n - p by omega) (by omega)]
    refine Ev.pos (by omega) ?_
    by_cases hbt : b = true
    · refine Ev.pos hbt (Ev.pos (by omega) (Ev.pos (by omega) (Ev.pos (by omega) (Ev.pos (by omega) ?_))))
      refine top_near m l raw a hl ha0 ha1 hb H t (pre ++ [p]) n _ (by simp [hp]) ?_
      rw [decide_eq_true_iff, ← hn]
      exact ⟨fun h => ⟨hbt, h⟩, fun h => h.2⟩
    · refine Ev.neg hbt ?_
      refine top_near m l raw a hl ha0 ha1 hb H t (pre ++ [p]) n false (by simp [hp]) ?_
      rw [← hn]
      exact ⟨fun h => by simp at h, fun h => absurd h.1 hbt⟩
theorem TopReadingsHaveTimes : perigeetop_TopReadingsHaveTimes.Pure := by
  intro m l a _ _ _
  refine Ev.rounds (g := fun k => perigeetop_TopReadingsHaveTimes.f k m l a) ?_
  unfold perigeetop_TopReadingsHaveTimes.f
  refine Ev.bind (rolled_ev l a) ?_
  unfold rolledS
  by_cases h : 4 ≤ a ∧ a ≤ 40
  · by_cases h5 : l.length ≤ 5000
    · simp only [if_pos h, if_pos h5]
      have hm := two_pow_ge (n := a.toNat) (by omega)
      rcases rollGo_tells (2 ^ a.toNat) l 0 [] with ⟨e, he, h6⟩ | ⟨h6, hc⟩
      · simp only [h6]
        exact Ev.neg he (Ev.pos rfl turns_fin)
      · simp only [h6, List.nil_append]
        refine Ev.pos (by trivial) ?_
        have hbd := chain_bound l 0 hc
        have back : near (2 ^ a.toNat) 0 l → unrollGo (2 ^ a.toNat) 0 [] (l.map (· % 2 ^ a.toNat)) = (l, 0) := by
          intro hn
          have := unrollGo_back (2 ^ a.toNat) (by omega) 0 (by omega) (Int.zero_emod _) l 0 [] (by omega) hc hn
          simpa using this
        have H : ∀ b : Bool, (b = true → near (2 ^ a.toNat) 0 l) → (near (2 ^ a.toNat) 0 l → b = true) → Ev (fun k => perigeetop_TopReadingsHaveTimes.l0 k m l a (l.map (· % 2 ^ a.toNat)) b l.length) true := by
          intro b hb1 _
          refine Ev.step (fun k => by rw [perigeetop_TopReadingsHaveTimes.l0]) ?_
          refine Ev.neg (by omega) (Ev.bind (unrolled_ev _ a) ?_)
          unfold unrolledS
          rw [if_pos h, if_pos (by simpa using h5)]
          rcases unrollGo_tells (2 ^ a.toNat) (by omega) (l.map (· % 2 ^ a.toNat)) 0 [] (by omega) with ⟨e, he, h7⟩ | ⟨y, h7, hcy, hny, hmap⟩
          · rw [h7]
            refine Ev.neg he (Ev.neg (fun hb => ?_) turns_fin)
            have := back (hb1 hb)
            rw [h7] at this
            exact he (congrArg Prod.snd this)
          · rw [h7, List.nil_append]
            refine Ev.pos rfl ?_
            have hyl : y.length = l.length := by have := congrArg List.length hmap; simpa using this
            exact top_times m l y b (fun hb => by
              have := back (hb1 hb)
              rw [h7, List.nil_append] at this
              exact congrArg Prod.fst this) (by omega) y [] 0 0 false rfl hcy (fun hf => by simp at hf)
        cases l with
        | nil =>
          refine Ev.pos (by simp) ?_
          refine Ev.step (fun k => by rw [perigeetop_TopReadingsHaveTimes.j0]) ?_
          obtain ⟨K, hK⟩ := H true (fun _ => trivial) (fun _ => rfl)
          refine ⟨K + 1, fun k hk => ?_⟩
          obtain ⟨j, rfl⟩ : ∃ j, k = j + 1 := ⟨k - 1, by omega⟩
          have := hK (j + 1) (by omega)
          simp only [perigeetop_TopReadingsHaveTimes.l0, List.length_nil, Int.natCast_zero, Int.lt_irrefl, if_false] at this
          simp only [perigeetop_TopReadingsHaveTimes.l0, List.length_nil, Int.natCast_zero, show ¬ ((1 : Int) < 0) by decide, if_false]
          exact this
        | cons n t =>
          refine Ev.neg (by simp only [List.length_cons]; omega) (Ev.pos (by simp only [List.length_cons]; omega) ?_)
          simp only [u64_small (show 0 ≤ a by omega) (by omega), shl_one h.1 h.2]
          refine Ev.pos (by omega) (Ev.step (fun k => by rw [perigeetop_TopReadingsHaveTimes.j0]) ?_)
          have hr : rd (n :: t) 0 = n := rfl
          rw [hr]
          refine top_near m (n :: t) _ a h5 h.1 h.2 hbd H t [] n _ rfl ?_
          rw [decide_eq_true_iff]
          show _ ↔ n - 0 < _ ∧ _
          rw [Int.sub_zero]
    · simp only [if_pos h, if_neg h5]
      exact Ev.neg (by decide) (Ev.pos rfl turns_fin)
  · simp only [if_neg h]
    exact Ev.neg (by decide) (Ev.pos rfl turns_fin)

end Go.Proofs.Ytionejclfbdlmaa.Pure
