/- Ticks that are less than a round behind one another come back from their readings, less a multiple of the round: for every list of ticks and every width; no condition. -/
import Derived.Test.YtjbchhabdlbflaaPCountersUnrollRolledx2
import Derived.Test.YtjbchhabdlbflaaWSized
set_option linter.unusedVariables false
set_option linter.unusedSimpArgs false
/-- The printed row names this lemma without the seat's own words' namespace. -/
abbrev Go.Proofs.Ytjbchhabdlbflaa.PrintWords.sized_ints := @Go.Proofs.YtjbchhabdlbflaaW.PrintWords.sized_ints
namespace Go.Proofs.Ytjbchhabdlbflaa.Pure
open Go.RowKit Go.Proofs.Ytjbchhabdlbflaa.PCountersUnrollRolled Go.Proofs.YtjbchhabdlbflaaW.PrintWords Go.Proofs.YtjbchhabdlbflaaW.PrintLast Go.Proofs.YtjbchhabdlbflaaW.PrintMore

/-! ### plain words: numbers, lists, rounds -/
theorem wf64 {x : Int} (h : (Lit.int .i64 x).wf = true) : -9223372036854775808 ≤ x ∧ x ≤ 9223372036854775807 := by
  simp only [Lit.wf, IntKind.min, IntKind.max, IntKind.signed, IntKind.bits, Bool.and_eq_true, decide_eq_true_eq, if_true] at h
  omega
theorem w64 {x : Int} (h0 : -9223372036854775808 ≤ x) (h1 : x ≤ 9223372036854775807) : wrap64 x = x := by unfold wrap64; omega
theorem rd_mid (pre : List Int) (n : Int) (t : List Int) : rd (pre ++ n :: t) (pre.length : Int) = n := by
  simp [rd]
theorem rd_mid' (pre : List Int) (n : Int) (t : List Int) {i : Int} (hi : i = (pre.length : Int)) : rd (pre ++ n :: t) i = n := by
  subst hi; exact rd_mid pre n t
theorem Ev.pos {α : Type} {c : Prop} [Decidable c] {f g : Nat → Option α} {r : α} (h : c) (k : Ev f r) : Ev (fun n => if c then f n else g n) r := by
  simp only [if_pos h]; exact k
theorem Ev.neg {α : Type} {c : Prop} [Decidable c] {f g : Nat → Option α} {r : α} (h : ¬ c) (k : Ev g r) : Ev (fun n => if c then f n else g n) r := by
  simp only [if_neg h]; exact k
theorem Ev.some {α : Type} {a r : α} (h : a = r) : Ev (fun _ => Option.some a) r := by subst h; exact Ev.now _
/-! ### counters: plain -/
theorem two_pow_le {n : Nat} (hn : n ≤ 40) : (2 : Int) ^ n ≤ 1099511627776 := by
  have h := Nat.pow_le_pow_right (n := 2) (by decide) hn
  have h' : ((2 ^ n : Nat) : Int) ≤ ((2 ^ 40 : Nat) : Int) := Int.ofNat_le.mpr h
  simpa using h'
theorem two_pow_ge {n : Nat} (hn : 4 ≤ n) : (16 : Int) ≤ (2 : Int) ^ n := by
  have h := Nat.pow_le_pow_right (n := 2) (by decide) hn
  have h' : ((2 ^ 4 : Nat) : Int) ≤ ((2 ^ n : Nat) : Int) := Int.ofNat_le.mpr h
  simpa using h'
theorem shl_one {a : Int} (h0 : 4 ≤ a) (h1 : a ≤ 40) : shl .i64 1 a = 2 ^ a.toNat := by
  have h2 := two_pow_le (n := a.toNat) (by omega)
  have h3 := two_pow_ge (n := a.toNat) (by omega)
  unfold shl
  rw [Nat.min_eq_left (by simp only [IntKind.bits]; omega), Int.one_mul]
  generalize (2 : Int) ^ a.toNat = m at *
  rw [IntKind.wrap_i64]
  omega
theorem u64_small {a : Int} (h0 : 0 ≤ a) (h1 : a ≤ 1000) : IntKind.u64.wrap a = a := by
  unfold IntKind.wrap
  simp only [IntKind.bits, IntKind.signed, Bool.false_and]
  simp only [Bool.false_eq_true, if_false]
  omega
def rollGo (m : Int) : Int → List Int → List Int → List Int × Int
  | _, acc, [] => (acc, 0)
  | p, acc, n :: t => if 0 ≤ n ∧ n ≤ 1000000000000 then (if n < p then ([], 8) else rollGo m n (acc ++ [n % m]) t) else ([], 1)
def unrollGo (m : Int) : Int → List Int → List Int → List Int × Int
  | _, acc, [] => (acc, 0)
  | p, acc, n :: t => if 0 ≤ n ∧ n ≤ m - 1 then (if p + (n - p) % m > 1000000000000 then ([], 1) else unrollGo m (p + (n - p) % m) (acc ++ [p + (n - p) % m]) t) else ([], 1)
def rolledS (l : List Int) (a : Int) : List Int × Int := if 4 ≤ a ∧ a ≤ 40 then (if l.length ≤ 5000 then rollGo (2 ^ a.toNat) 0 [] l else ([], 2)) else ([], 1)
def unrolledS (l : List Int) (a : Int) : List Int × Int := if 4 ≤ a ∧ a ≤ 40 then (if l.length ≤ 5000 then unrollGo (2 ^ a.toNat) 0 [] l else ([], 2)) else ([], 1)
def chain : Int → List Int → Prop
  | _, [] => True
  | p, n :: t => 0 ≤ n ∧ n ≤ 1000000000000 ∧ p ≤ n ∧ chain n t
def near (m : Int) : Int → List Int → Prop
  | _, [] => True
  | p, n :: t => n - p < m ∧ near m n t
theorem rollGo_tells (m : Int) : ∀ (l : List Int) (p : Int) (acc : List Int),
    (∃ e, e ≠ 0 ∧ rollGo m p acc l = ([], e)) ∨ (rollGo m p acc l = (acc ++ l.map (· % m), 0) ∧ chain p l)
  | [], p, acc => .inr ⟨by simp [rollGo], trivial⟩
  | n :: t, p, acc => by
    unfold rollGo
    split
    · split
      · exact .inl ⟨8, by decide, rfl⟩
      · rcases rollGo_tells m t n (acc ++ [n % m]) with h | ⟨h, hc⟩
        · exact .inl h
        · rename_i h1 h2; exact .inr ⟨by rw [h]; simp, h1.1, h1.2, by omega, hc⟩
    · exact .inl ⟨1, by decide, rfl⟩
theorem rollGo_chain (m : Int) : ∀ (l : List Int) (p : Int) (acc : List Int), chain p l → rollGo m p acc l = (acc ++ l.map (· % m), 0)
  | [], p, acc, _ => by simp [rollGo]
  | n :: t, p, acc, h => by
    obtain ⟨h0, h1, h2, h3⟩ := h
    unfold rollGo
    rw [if_pos ⟨h0, h1⟩, if_neg (by omega), rollGo_chain m t n _ h3]
    simp
theorem emod_back {m p n : Int} (hm : 0 < m) (hp : 0 ≤ p) (h0 : 0 ≤ n) (h1 : n ≤ m - 1) : (p + (n - p) % m) % m = n := by
  rw [Int.add_emod, Int.emod_emod, ← Int.add_emod]
  rw [show p + (n - p) = n by omega]
  exact Int.emod_eq_of_lt h0 (by omega)
/-- What is unrolled: the reading is the remainder; each one less than a round behind the one before it. -/
theorem unrollGo_tells (m : Int) (hm : 0 < m) : ∀ (l : List Int) (p : Int) (acc : List Int), 0 ≤ p →
    (∃ e, e ≠ 0 ∧ unrollGo m p acc l = ([], e)) ∨ (∃ y, unrollGo m p acc l = (acc ++ y, 0) ∧ chain p y ∧ near m p y ∧ y.map (· % m) = l)
  | [], p, acc, _ => .inr ⟨[], by simp [unrollGo], trivial, trivial, rfl⟩
  | n :: t, p, acc, hp => by
    have h2 := Int.emod_nonneg (n - p) (show m ≠ 0 by omega)
    have h3 := Int.emod_lt_of_pos (n - p) hm
    unfold unrollGo
    split
    · rename_i h
      split
      · exact .inl ⟨1, by decide, rfl⟩
      · rcases unrollGo_tells m hm t (p + (n - p) % m) (acc ++ [p + (n - p) % m]) (by omega) with h' | ⟨y, hy, hc, hn, hmap⟩
        · exact .inl h'
        · refine .inr ⟨(p + (n - p) % m) :: y, by rw [hy]; simp, ⟨by omega, by omega, by omega, hc⟩, ⟨by omega, hn⟩, ?_⟩
          rw [List.map_cons, hmap, emod_back hm hp h.1 h.2]
    · exact .inl ⟨1, by decide, rfl⟩
theorem unrollGo_back (m : Int) (hm : 0 < m) (c : Int) (hc0 : 0 ≤ c) (hcm : c % m = 0) : ∀ (l : List Int) (p : Int) (acc : List Int), c ≤ p → chain p l → near m p l →
    unrollGo m (p - c) acc (l.map (· % m)) = (acc ++ l.map (· - c), 0)
  | [], p, acc, _, _, _ => by simp [unrollGo]
  | n :: t, p, acc, hcp, h, h' => by
    obtain ⟨h0, h1, h2, h3⟩ := h
    obtain ⟨h4, h5⟩ := h'
    have e : (n % m - (p - c)) % m = n - p := by
      rw [show n % m - (p - c) = n % m + (c - p) by omega, Int.add_emod, Int.emod_emod, ← Int.add_emod, show n + (c - p) = (n - p) + c by omega, Int.add_emod, hcm, Int.add_zero, Int.emod_emod]
      exact Int.emod_eq_of_lt (by omega) h4
    have h6 := Int.emod_nonneg n (show m ≠ 0 by omega)
    have h7 := Int.emod_lt_of_pos n hm
    rw [List.map_cons]
    unfold unrollGo
    rw [if_pos ⟨h6, by omega⟩, e, if_neg (by omega), show p - c + (n - p) = n - c by omega, unrollGo_back m hm c hc0 hcm t n _ (by omega) h3 h5]
    simp
theorem tmod_pos {a b : Int} (h : 0 ≤ a) : Int.tmod a b = a % b := Int.tmod_eq_emod_of_nonneg h
theorem tmod_gt (a : Int) {m : Int} (hm : 0 < m) : - m < Int.tmod a m := by
  have h := Int.natAbs_tmod a m
  have h' := Nat.mod_lt a.natAbs (show 0 < m.natAbs by omega)
  omega
/-- The program's own way to the least tick that is not less. -/
theorem unroll_step {m p n : Int} (hm : 0 < m) (hp0 : 0 ≤ p) (hn0 : 0 ≤ n) :
    Int.tmod (Int.tmod (n - p) m + m) m = (n - p) % m := by
  have h1 := Int.tmod_lt_of_pos (n - p) hm
  have h2 := tmod_gt (n - p) hm
  rw [tmod_pos (by omega), Int.add_emod_right]
  have h3 := Int.tmod_add_mul_tdiv (n - p) m
  have h4 : (n - p) % m = (Int.tmod (n - p) m + m * Int.tdiv (n - p) m) % m := by rw [h3]
  rw [h4, Int.add_mul_emod_self_left]
/-! ### counters: what the functions tell -/
theorem In_eq (a lo hi : Int) : kit_In.f a lo hi = some (decide (lo ≤ a ∧ a ≤ hi)) := by
  unfold kit_In.f
  split
  · rename_i h; simp [h]
  · rename_i h; simp [h]
theorem checkBits_eq (n a : Int) : clock_checkBits.f n a = some (if 4 ≤ a ∧ a ≤ 40 then (if n > 5000 then 2 else 0) else 1) := by
  unfold clock_checkBits.f
  rw [In_eq, Option.bind_some]
  by_cases h : 4 ≤ a ∧ a ≤ 40
  · simp only [h, and_self, decide_true, if_true]
    split <;> rfl
  · simp only [decide_eq_false h, Bool.false_eq_true, if_false, if_neg h]
theorem rolled_loop {a m : Int} (h4 : 0 ≤ a) (ha : shl .i64 1 a = m) (hm : 0 < m) (l : List Int) (hl : l.length ≤ 5000) :
    ∀ (t pre acc : List Int) (p : Int), l = pre ++ t → acc.length = pre.length → (pre.length = 0 → p = 0) → (0 < pre.length → rd l ((pre.length : Int) - 1) = p) → 0 ≤ p →
      Ev (fun k => clock_Rolled.l0 k l a acc l l.length pre.length) (rollGo m p acc t)
  | [], pre, acc, p, hp, _, _, _, _ => by
    refine Ev.step (fun k => by rw [clock_Rolled.l0]) ?_
    exact Ev.neg (by rw [hp]; simp) (Ev.some (by rfl))
  | n :: t, pre, acc, p, hp, hacc, h1, h2, h3 => by
    have hlen : pre.length < l.length := by rw [hp]; simp
    have hrd : rd l pre.length = n := by rw [hp]; exact rd_mid ..
    refine Ev.step (fun k => by rw [clock_Rolled.l0]) ?_
    simp only [hrd, In_eq, Option.bind_some, ha, decide_eq_true_eq]
    refine Ev.pos (by omega) (Ev.pos (by omega) (Ev.pos (by omega) ?_))
    unfold rollGo
    by_cases hin : 0 ≤ n ∧ n ≤ 1000000000000
    · rw [if_pos hin]
      have ih := rolled_loop h4 ha hm l hl t (pre ++ [n]) (acc ++ [n % m]) n (by simp [hp]) (by simp [hacc]) (by simp) (fun _ => by rw [← hrd]; congr 1; simp) hin.1
      have hw : wrap64 ((pre.length : Int) + 1) = ((pre ++ [n]).length : Int) := by rw [w64 (by omega) (by omega)]; simp
      refine Ev.pos hin ?_
      by_cases h0 : pre.length = 0
      · refine Ev.neg (by omega) (Ev.pos h4 (Ev.neg (by omega) (Ev.pos (by omega) ?_)))
        rw [if_neg (by have := h1 h0; omega), tmod_pos hin.1, hw]
        exact ih
      · have hw1 : wrap64 ((pre.length : Int) - 1) = (pre.length : Int) - 1 := w64 (by omega) (by omega)
        rw [hw1, h2 (by omega)]
        refine Ev.pos (by omega) (Ev.pos (by omega) (Ev.pos (by omega) ?_))
        by_cases hnp : n < p
        · rw [if_pos hnp]
          exact Ev.pos hnp (Ev.some rfl)
        · rw [if_neg hnp, tmod_pos hin.1, hw]
          exact Ev.neg hnp (Ev.pos h4 (Ev.neg (by omega) (Ev.pos (by omega) ih)))
    · rw [if_neg hin]
      exact Ev.neg hin (Ev.some rfl)
theorem rolled_ev (l : List Int) (a : Int) : Ev (fun k => clock_Rolled.f k l a) (rolledS l a) := by
  unfold clock_Rolled.f rolledS
  simp only [checkBits_eq, Option.bind_some]
  by_cases h : 4 ≤ a ∧ a ≤ 40
  · simp only [if_pos h]
    by_cases h5 : l.length ≤ 5000
    · simp only [if_pos h5, if_neg (show ¬ ((l.length : Int) > 5000) by omega), if_true]
      have hm := two_pow_ge (n := a.toNat) (by omega)
      exact rolled_loop (by omega) (shl_one h.1 h.2) (by omega) l h5 l [] [] 0 rfl rfl (fun _ => rfl) (fun h => by simp at h) (by omega)
    · simp only [if_neg h5, if_pos (show (l.length : Int) > 5000 by omega)]
      exact Ev.neg (by decide) (Ev.some rfl)
  · simp only [if_neg h]
    exact Ev.neg (by decide) (Ev.some rfl)
theorem unrolled_loop {m : Int} (hm : 16 ≤ m) (hm1 : m ≤ 1099511627776) (l : List Int) (hl : l.length ≤ 5000) :
    ∀ (t pre acc : List Int) (p : Int), l = pre ++ t → acc.length = pre.length → 0 ≤ p → p ≤ 1000000000000 →
      Ev (fun k => clock_Unrolled.l0 k m acc p l l.length pre.length) (unrollGo m p acc t)
  | [], pre, acc, p, hp, _, _, _ => by
    refine Ev.step (fun k => by rw [clock_Unrolled.l0]) ?_
    exact Ev.neg (by rw [hp]; simp) (Ev.some (by rfl))
  | n :: t, pre, acc, p, hp, hacc, h1, h2 => by
    have hlen : pre.length < l.length := by rw [hp]; simp
    have hrd : rd l pre.length = n := by rw [hp]; exact rd_mid ..
    refine Ev.step (fun k => by rw [clock_Unrolled.l0]) ?_
    simp only [hrd, In_eq, Option.bind_some, decide_eq_true_eq, w64 (show -9223372036854775808 ≤ m - 1 by omega) (by omega)]
    refine Ev.pos (by omega) (Ev.pos (by omega) (Ev.pos (by omega) ?_))
    unfold unrollGo
    by_cases hin : 0 ≤ n ∧ n ≤ m - 1
    · rw [if_pos hin]
      have hw : wrap64 ((pre.length : Int) + 1) = ((pre ++ [n]).length : Int) := by rw [w64 (by omega) (by omega)]; simp
      have h6 := Int.tmod_lt_of_pos (n - p) (show 0 < m by omega)
      have h7 := tmod_gt (n - p) (show 0 < m by omega)
      have h8 := Int.emod_nonneg (n - p) (show m ≠ 0 by omega)
      have h9 := Int.emod_lt_of_pos (n - p) (show 0 < m by omega)
      have e := unroll_step (show 0 < m by omega) h1 hin.1
      have e1 : wrap64 (n - p) = n - p := w64 (by omega) (by omega)
      have e2 : wrap64 (Int.tmod (n - p) m + m) = Int.tmod (n - p) m + m := w64 (by omega) (by omega)
      have e3 : wrap64 (p + (n - p) % m) = p + (n - p) % m := w64 (by omega) (by omega)
      rw [e1, e2, e, e3]
      refine Ev.pos hin (Ev.neg (by omega) ?_)
      by_cases hb : p + (n - p) % m > 1000000000000
      · rw [if_pos hb]
        exact Ev.pos hb (Ev.some rfl)
      · rw [if_neg hb, hw]
        exact Ev.neg hb (Ev.pos (by omega) (unrolled_loop hm hm1 l hl t (pre ++ [n]) _ _ (by simp [hp]) (by simp [hacc]) (by omega) (by omega)))
    · rw [if_neg hin]
      exact Ev.neg hin (Ev.some rfl)
theorem unrolled_ev (l : List Int) (a : Int) : Ev (fun k => clock_Unrolled.f k l a) (unrolledS l a) := by
  unfold clock_Unrolled.f unrolledS
  simp only [checkBits_eq, Option.bind_some]
  by_cases h : 4 ≤ a ∧ a ≤ 40
  · simp only [if_pos h]
    by_cases h5 : l.length ≤ 5000
    · simp only [if_pos h5, if_neg (show ¬ ((l.length : Int) > 5000) by omega), if_true]
      have hm := two_pow_ge (n := a.toNat) (by omega)
      have hm1 := two_pow_le (n := a.toNat) (by omega)
      rw [shl_one h.1 h.2]
      exact Ev.pos (by omega) (unrolled_loop hm hm1 l h5 l [] [] 0 rfl rfl (by omega) (by omega))
    · simp only [if_neg h5, if_pos (show (l.length : Int) > 5000 by omega)]
      exact Ev.neg (by decide) (Ev.some rfl)
  · simp only [if_neg h]
    exact Ev.neg (by decide) (Ev.some rfl)
theorem awake_ev : Ev (fun k => perigeelaw2_awake.f k) true := Ev.of perigeelaw2_awake.mono (k := 5) (by decide +kernel)
/-! ### the law -/
theorem law_back (l : List Int) (a c : Int) (hl : l.length ≤ 5000) (ha0 : 4 ≤ a) (ha1 : a ≤ 40) (hb : ∀ x ∈ l, 0 ≤ x ∧ x ≤ 1000000000000) (hc0 : 0 ≤ c) (hc1 : c ≤ 1000000000000) (hcm : c % 2 ^ a.toNat = 0) (n0 : Int) (t0 : List Int) (hn : l = n0 :: t0) :
    ∀ (t pre : List Int), l = pre ++ t → Ev (fun k => perigeelaw2_CountersUnrollRolled.l1 k l a (l.map (· - c)) pre.length) true
  | [], pre, hp => by
    refine Ev.step (fun k => by rw [perigeelaw2_CountersUnrollRolled.l1]) ?_
    refine Ev.neg (by rw [hp]; simp) ?_
    exact Ev.bind awake_ev (Ev.now _)
  | n :: t, pre, hp => by
    have hlen : pre.length < l.length := by rw [hp]; simp
    have hrd : rd l pre.length = n := by rw [hp]; exact rd_mid ..
    have hrd' : rd (l.map (· - c)) pre.length = n - c := by
      rw [hp, List.map_append, List.map_cons]
      exact rd_mid' _ _ _ (by simp)
    have hr0 : rd l 0 = n0 := by rw [hn]; rfl
    have hr0' : rd (l.map (· - c)) 0 = n0 - c := by rw [hn]; rfl
    have hnb := hb n (by rw [hp]; simp)
    have hnb0 := hb n0 (by rw [hn]; simp)
    have hm := two_pow_ge (n := a.toNat) (by omega)
    refine Ev.step (fun k => by rw [perigeelaw2_CountersUnrollRolled.l1]) ?_
    simp only [hrd, hrd', hr0, hr0', u64_small (show 0 ≤ a by omega) (by omega), shl_one ha0 ha1, List.length_map]
    rw [w64 (show -9223372036854775808 ≤ n - (n - c) by omega) (by omega), w64 (show -9223372036854775808 ≤ n0 - (n0 - c) by omega) (by omega), show n - (n - c) = c by omega, show n0 - (n0 - c) = c by omega, tmod_pos hc0, hcm]
    refine Ev.pos (by omega) (Ev.pos (by omega) (Ev.pos (by omega) (Ev.pos (by omega) (Ev.pos (by omega) (Ev.pos rfl (Ev.pos (by omega) (Ev.neg (by omega) (Ev.pos rfl ?_))))))))
    have hw : wrap64 ((pre.length : Int) + 1) = ((pre ++ [n]).length : Int) := by rw [w64 (by omega) (by omega)]; simp
    rw [hw]
    exact law_back l a c hl ha0 ha1 hb hc0 hc1 hcm n0 t0 hn t (pre ++ [n]) (by simp [hp])
theorem law_near (l x : List Int) (a : Int) (hl : l.length ≤ 5000) (ha0 : 4 ≤ a) (ha1 : a ≤ 40) (hb : ∀ x ∈ l, 0 ≤ x ∧ x ≤ 1000000000000) :
    ∀ (t pre : List Int) (p : Int), l = pre ++ p :: t → (near (2 ^ a.toNat) p t → Ev (fun k => perigeelaw2_CountersUnrollRolled.l0 k l a x l.length) true) →
      Ev (fun k => perigeelaw2_CountersUnrollRolled.l0 k l a x ((pre.length : Int) + 1)) true
  | [], pre, p, hp, H => by
    have := H trivial
    rw [show (l.length : Int) = (pre.length : Int) + 1 by rw [hp]; simp] at this
    exact this
  | n :: t, pre, p, hp, H => by
    have hlen : pre.length + 1 < l.length := by rw [hp]; simp
    have hrd : rd l pre.length = p := by rw [hp]; exact rd_mid ..
    have hrd' : rd l ((pre.length : Int) + 1) = n := by rw [hp, show pre ++ p :: n :: t = (pre ++ [p]) ++ n :: t by simp]; exact rd_mid' _ _ _ (by simp)
    have hnb := hb n (by rw [hp]; simp)
    have hpb := hb p (by rw [hp]; simp)
    have hm := two_pow_ge (n := a.toNat) (by omega)
    refine Ev.step (fun k => by rw [perigeelaw2_CountersUnrollRolled.l0]) ?_
    rw [w64 (show -9223372036854775808 ≤ (pre.length : Int) + 1 - 1 by omega) (by omega), show (pre.length : Int) + 1 - 1 = pre.length by omega]
    simp only [hrd, hrd', u64_small (show 0 ≤ a by omega) (by omega), shl_one ha0 ha1]
    rw [w64 (show -9223372036854775808 ≤ n - p by omega) (by omega)]
    refine Ev.pos (by omega) (Ev.pos (by omega) (Ev.pos (by omega) (Ev.pos (by omega) (Ev.pos (by omega) ?_))))
    by_cases h : n - p ≥ 2 ^ a.toNat
    · refine Ev.pos h ?_
      exact Ev.bind awake_ev (Ev.now _)
    · refine Ev.neg h ?_
      have hw : wrap64 ((pre.length : Int) + 1 + 1) = ((pre ++ [p]).length : Int) + 1 := by rw [w64 (by omega) (by omega)]; simp
      rw [hw]
      exact law_near l x a hl ha0 ha1 hb t (pre ++ [p]) n (by simp [hp]) (fun h' => H ⟨by omega, h'⟩)
theorem chain_bound : ∀ (l : List Int) (p : Int), chain p l → ∀ x ∈ l, 0 ≤ x ∧ x ≤ 1000000000000
  | n :: t, p, h, x, hx => by
    rcases List.mem_cons.mp hx with rfl | hx
    · exact ⟨h.1, h.2.1⟩
    · exact chain_bound t n h.2.2.2 x hx
theorem CountersUnrollRolled : perigeelaw2_CountersUnrollRolled.Pure := by
  intro l a _ _ _ _
  refine Ev.rounds (g := fun k => perigeelaw2_CountersUnrollRolled.f k l a) ?_
  unfold perigeelaw2_CountersUnrollRolled.f
  refine Ev.bind (rolled_ev l a) ?_
  unfold rolledS
  by_cases h : 4 ≤ a ∧ a ≤ 40
  · by_cases h5 : l.length ≤ 5000
    · simp only [if_pos h, if_pos h5]
      have hm := two_pow_ge (n := a.toNat) (by omega)
      rcases rollGo_tells (2 ^ a.toNat) l 0 [] with ⟨e, he, h6⟩ | ⟨h6, hc⟩
      · simp only [h6]
        exact Ev.neg he (Ev.pos rfl (Ev.bind awake_ev (Ev.now _)))
      · simp only [h6, List.nil_append]
        refine Ev.pos (by simp) ?_
        have hb := chain_bound l 0 hc
        cases l with
        | nil =>
          refine Ev.step (fun k => by rw [perigeelaw2_CountersUnrollRolled.l0]) ?_
          refine Ev.neg (by simp) ?_
          refine Ev.bind (unrolled_ev _ a) ?_
          simp only [unrolledS, if_pos h, List.map_nil, List.length_nil, Nat.zero_le, if_true, unrollGo]
          refine Ev.step (fun k => by rw [perigeelaw2_CountersUnrollRolled.j1]) ?_
          refine Ev.neg (by decide) ?_
          refine Ev.step (fun k => by rw [perigeelaw2_CountersUnrollRolled.l1]) ?_
          exact Ev.neg (by simp) (Ev.bind awake_ev (Ev.now _))
        | cons n t =>
          refine law_near (n :: t) _ a h5 h.1 h.2 hb t [] n rfl (fun hnear => ?_)
          refine Ev.step (fun k => by rw [perigeelaw2_CountersUnrollRolled.l0]) ?_
          refine Ev.neg (by omega) ?_
          refine Ev.bind (unrolled_ev _ a) ?_
          have hn := hb n (by simp)
          have h7 := Int.emod_nonneg n (show (2 : Int) ^ a.toNat ≠ 0 by omega)
          have h8 := Int.emod_lt_of_pos n (show (0 : Int) < 2 ^ a.toNat by omega)
          have h9 := Int.mul_ediv_add_emod n (2 ^ a.toNat)
          have hcm : (n - n % 2 ^ a.toNat) % 2 ^ a.toNat = 0 := by
            rw [show n - n % 2 ^ a.toNat = 2 ^ a.toNat * (n / 2 ^ a.toNat) by omega]
            exact Int.mul_emod_right _ _
          have hle : n % 2 ^ a.toNat ≤ n := by
            rcases Int.lt_or_le n (2 ^ a.toNat) with h10 | h10
            · rw [Int.emod_eq_of_lt hn.1 h10]; omega
            · omega
          have hS : unrolledS ((n :: t).map (· % 2 ^ a.toNat)) a = ((n :: t).map (· - (n - n % 2 ^ a.toNat)), 0) := by
            unfold unrolledS
            rw [if_pos h, if_pos (by simpa using h5), List.map_cons]
            unfold unrollGo
            rw [if_pos ⟨h7, by omega⟩, Int.sub_zero, Int.emod_emod, Int.zero_add, if_neg (by omega)]
            have := unrollGo_back (2 ^ a.toNat) (by omega) (n - n % 2 ^ a.toNat) (by omega) hcm t n [n % 2 ^ a.toNat] (by omega) hc.2.2.2 hnear
            rw [show n - (n - n % 2 ^ a.toNat) = n % 2 ^ a.toNat by omega] at this
            rw [List.nil_append, this]
            simp only [List.map_cons, List.cons_append, List.nil_append]
            rw [show n - (n - n % 2 ^ a.toNat) = n % 2 ^ a.toNat by omega]
          rw [hS]
          refine Ev.pos rfl ?_
          refine Ev.step (fun k => by rw [perigeelaw2_CountersUnrollRolled.j1]) ?_
          refine Ev.neg (by simp) ?_
          exact law_back (n :: t) a _ h5 h.1 h.2 hb (by omega) (by omega) hcm n t rfl (n :: t) [] rfl
    · simp only [if_pos h, if_neg h5]
      exact Ev.neg (by decide) (Ev.pos rfl (Ev.bind awake_ev (Ev.now _)))
  · simp only [if_neg h]
    exact Ev.neg (by decide) (Ev.pos rfl (Ev.bind awake_ev (Ev.now _)))

end Go.Proofs.Ytjbchhabdlbflaa.Pure
