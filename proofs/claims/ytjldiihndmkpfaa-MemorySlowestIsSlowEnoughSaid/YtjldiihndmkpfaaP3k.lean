/- The slowest rounds with which all is right; both sides; the laws. -/
import Derived.Test.YtjldiihndmkpfaaP3j
set_option linter.unusedVariables false
set_option linter.unusedSimpArgs false
set_option maxRecDepth 10000
set_option maxHeartbeats 8000000
namespace Go.Proofs.P3
open Go.Ex
/-- Nothing is lost or wrong. -/
def okAt (b : Bank) (l : List Flip) (mn u : Nat) (ev : Nat) : Bool := decide ((lostL (liveS ev mn b.1 l u).1 b.1.length).length + (wrongL (liveS ev mn b.1 l u).1 b.2 b.1.length).length = 0)
def srch (ok : Nat → Bool) : Nat → Int × Bool
  | 0 => (0, false)
  | n + 1 => if ok (n + 1) = true then (((n + 1 : Nat) : Int), true) else srch ok n
def slow (ok : Nat → Bool) (u n : Nat) : Int × Bool := if u < n ∧ ok n = true then ((n : Int), true) else srch ok (min n u)
theorem slow_hit {ok : Nat → Bool} {u n : Nat} (h0 : 0 < n) (h : ok n = true) : slow ok u n = ((n : Int), true) := by
  unfold slow
  by_cases q : u < n
  · rw [if_pos ⟨q, h⟩]
  · rw [if_neg (fun e => q e.1), Nat.min_eq_left (by omega)]
    cases n with
    | zero => omega
    | succ n => unfold srch; rw [if_pos h]
theorem slow_miss {ok : Nat → Bool} {u n : Nat} (h0 : 0 < n) (h : ok n = false) : slow ok u n = slow ok u (if u + 1 < n then u else n - 1) := by
  unfold slow
  rw [if_neg (fun e => by rw [h] at e; cases e.2)]
  by_cases q : u + 1 < n
  · rw [if_pos q, if_neg (by omega), Nat.min_eq_right (by omega), Nat.min_self]
  · rw [if_neg q, if_neg (by omega)]
    by_cases q2 : n = u + 1
    · rw [Nat.min_eq_right (by omega), Nat.min_eq_left (by omega)]
      congr 1
      omega
    · rw [Nat.min_eq_left (by omega), Nat.min_eq_left (by omega)]
      cases n with
      | zero => omega
      | succ n =>
        conv => lhs; unfold srch
        rw [if_neg (by rw [h]; decide)]
        rfl
theorem slow_zero {ok : Nat → Bool} {u : Nat} : slow ok u 0 = (0, false) := by
  unfold slow
  rw [if_neg (by omega), Nat.min_eq_left (by omega)]
  rfl
theorem live_none {mn u ev : Nat} {c : List Int} {l : List Flip} (h : u < ev) : liveS ev mn c l u = ((flipTo (u : Int) c l).1, []) := by
  unfold liveS
  rw [Nat.div_eq_of_lt h]
  rfl
theorem okAt_none {b : Bank} {l : List Flip} {mn u ev : Nat} (h : u < ev) : okAt b l mn u ev = okAt b l mn u (u + 1) := by
  unfold okAt
  rw [live_none h, live_none (Nat.lt_succ_self u)]
def slowE (b : Bank) (r : Int × Int) (l : List Flip) (u most : Int) : Int :=
  if flipsE b l ≠ 0 then flipsE b l else if inB r.2 1 5000 = false ∨ inB u 0 1000000000000 = false then 1 else if 20000 < u * r.2 then 2 else if inB most 1 1000000000000 = false then 1 else 0
def slowS (b : Bank) (r : Int × Int) (l : List Flip) (u most : Int) : Int × Bool × Int :=
  if slowE b r l u most ≠ 0 then (0, false, slowE b r l u most) else ((slow (okAt b l r.2.toNat u.toNat) u.toNat most.toNat).1, (slow (okAt b l r.2.toNat u.toNat) u.toNat most.toNat).2, 0)
theorem slow_good {b : Bank} {r : Int × Int} {l : List Flip} {u most : Int} (h : slowE b r l u most = 0) : flipsE b l = 0 ∧ ∃ mn un mo : Nat, r.2 = ((mn : Nat) : Int) ∧ u = un ∧ most = mo ∧ 1 ≤ mn ∧ mn ≤ 5000 ∧ un ≤ 1000000000000 ∧ un * mn ≤ 20000 ∧ 1 ≤ mo ∧ mo ≤ 1000000000000 := by
  unfold slowE at h
  split at h
  · rename_i q; exact absurd h q
  rename_i q
  refine ⟨by simpa using q, ?_⟩
  split at h
  · cases h
  rename_i a1
  split at h
  · cases h
  rename_i a2
  split at h
  · cases h
  rename_i a3
  obtain ⟨ev, mn⟩ := r
  simp only [not_or, Bool.not_eq_false] at a1 a3
  simp [inB] at a1 a3
  refine ⟨mn.toNat, u.toNat, most.toNat, by simp only; omega, by omega, by omega, by omega, by omega, by omega, ?_, by omega, by omega⟩
  obtain ⟨m, rfl⟩ := Int.eq_ofNat_of_zero_le (show 0 ≤ mn by omega)
  obtain ⟨w, rfl⟩ := Int.eq_ofNat_of_zero_le (show 0 ≤ u by omega)
  simp only [Int.toNat_natCast]
  simp only [Int.not_lt] at a2
  have : ((w * m : Nat) : Int) ≤ 20000 := by rw [Int.natCast_mul]; exact a2
  omega
theorem div_work {u ev mn : Nat} (h : u * mn ≤ 20000) : u / ev * mn ≤ 1000000 := Nat.le_trans (Nat.mul_le_mul_right _ (Nat.div_le_self _ _)) (by omega)
theorem Slowest_ok (b : Bank) (r : Int × Int) (l : List Flip) (u most : Int) : OkF Try.prog 47 [bkV b, rdV r, rF l, .int .i64 u, .int .i64 most] (.tup [.int .i64 (slowS b r l u most).1, .bool (slowS b r l u most).2.1, .int .i64 (slowS b r l u most).2.2], []) := by
  refine OkF.W0 hm h47 (of_decide_eq_true rfl) ?_
  unfold c47
  obtain ⟨ev0, mn0⟩ := r
  have hf := First_ok [flipsE b l, rngE mn0 1 5000, rngE u 0 1000000000000] (by simp)
  have hF : firstE [flipsE b l, rngE mn0 1 5000, rngE u 0 1000000000000] = if flipsE b l ≠ 0 then flipsE b l else if inB mn0 1 5000 = false ∨ inB u 0 1000000000000 = false then 1 else 0 := by
    simp only [firstE, rngE]
    by_cases a0 : flipsE b l = 0 <;> simp only [a0, ne_eq, not_true, not_false_iff, if_true, if_false]
    by_cases x2 : inB mn0 1 5000 = true <;> by_cases x3 : inB u 0 1000000000000 = true <;> simp [x2, x3]
  rw [hF] at hf
  simp -dsimp
  refine call_pure (CheckFlips_ok b l) (by simp) rfl ?_
  simp -dsimp
  refine call_pure (Range_ok _ _ _) (by simp) rfl ?_
  simp -dsimp
  refine call_pure (Range_ok _ _ _) (by simp) rfl ?_
  simp -dsimp [fillA, toRO3]
  refine call_int hf ?_
  simp -dsimp
  have bad : ∀ v, slowE b (ev0, mn0) l u most = v → v ≠ 0 → slowS b (ev0, mn0) l u most = (0, false, v) := fun v h1 h2 => by unfold slowS; rw [h1, if_pos h2]
  by_cases a0 : flipsE b l = 0
  rotate_left
  · have e := bad (flipsE b l) (by unfold slowE; rw [if_pos a0]) a0
    simp -dsimp [a0, e]
  by_cases a1 : inB mn0 1 5000 = false ∨ inB u 0 1000000000000 = false
  · have e := bad 1 (by unfold slowE; rw [if_neg (by simpa using a0), if_pos a1]) (by decide)
    simp -dsimp [a0, a1, e]
  have b1 : 1 ≤ mn0 ∧ mn0 ≤ 5000 ∧ 0 ≤ u ∧ u ≤ 1000000000000 := by
    simp only [not_or, Bool.not_eq_false] at a1
    simp [inB] at a1
    omega
  have q2 : 0 ≤ u * mn0 := Int.mul_nonneg b1.2.2.1 (by omega)
  have q3 : u * mn0 ≤ 1000000000000 * 5000 := Int.le_trans (Int.mul_le_mul_of_nonneg_right b1.2.2.2 (by omega)) (Int.mul_le_mul_of_nonneg_left (by omega) (by omega))
  have w2 : IntKind.i64.wrap (u * mn0) = u * mn0 := w_i64 (by omega) (by omega)
  simp -dsimp [a0, a1, w2]
  by_cases a2 : 20000 < u * mn0
  · have e := bad 2 (by unfold slowE; rw [if_neg (by simpa using a0), if_neg a1, if_pos a2]) (by decide)
    simp -dsimp [a2, e]
  simp -dsimp [a2]
  refine call_pure (In_ok _ _ _) (by simp) rfl ?_
  simp -dsimp
  cases a3 : inB most 1 1000000000000 with
  | false =>
    have e := bad 1 (by unfold slowE; rw [if_neg (by simpa using a0), if_neg a1, if_neg a2, if_pos a3]) (by decide)
    simp -dsimp [e]
  | true =>
  have hz : slowE b (ev0, mn0) l u most = 0 := by unfold slowE; rw [if_neg (by simpa using a0), if_neg a1, if_neg a2, if_neg (by rw [a3]; decide)]
  obtain ⟨_, mn, un, mo, h1, rfl, rfl, m1, m2, m3, m4, m5, m6⟩ := slow_good hz
  simp only at h1
  subst h1
  obtain ⟨hb, hl2, hl⟩ := flips_good a0
  have hbl := hb.len; have hbm := hb.most
  have hE : slowS b (ev0, ((mn : Nat) : Int)) l (un : Int) (mo : Int) = ((slow (okAt b l mn un) un mo).1, (slow (okAt b l mn un) un mo).2, 0) := by unfold slowS; rw [if_neg (by simpa using hz)]; rfl
  rw [hE]
  simp -dsimp
  refine loop_dec (fun n t => t.t 5 = .pt 0 0 0 ∧ t.t 6 = .pt 1 0 0 ∧ t.t 2 = rF l ∧ t.t 3 = .int .i64 (un : Int) ∧ t.t 14 = .int .i64 (n : Int) ∧ 2 ≤ t.nx ∧ t.h 0 = some ⟨0, 0, [rI b.1, rI b.2], none⟩ ∧ (∃ x, t.h 1 = some ⟨0, 0, [.int .i64 x, .int .i64 (mn : Int)], none⟩) ∧ n ≤ mo ∧ slow (okAt b l mn un) un n = slow (okAt b l mn un) un mo) mo ?_ (fun n t hI => ?_)
  · simp -dsimp
  · obtain ⟨i5, i6, i2, i3, i14, inx, h0, ⟨x, h1⟩, hn, hS⟩ := hI
    unfold l47_0
    cases n with
    | zero =>
      rw [slow_zero] at hS
      simp -dsimp [i14, ← hS]
    | succ n =>
      have hpos : (0 : Int) < ((n + 1 : Nat) : Int) := by omega
      have hpos' : 0 < n + 1 := by omega
      obtain ⟨k1, k2, k3⟩ := live_len (ev := n + 1) (mn := mn) (u := un) hb.pos hb.c hl
      have hlv := live_ok b (n + 1) mn un l hb hl hl2 (by omega) (by omega) m2 m3 (div_work m4)
      have hlo := lost_ok (liveS (n + 1) mn b.1 l un).1 b.2 (by omega) (by omega)
      rw [k1] at hlo
      have b2 := lostL_len (liveS (n + 1) mn b.1 l un).1 b.1.length
      have b3 := wrongL_len (liveS (n + 1) mn b.1 l un).1 b.2 b.1.length
      have hok : okAt b l mn un (n + 1) = decide ((lostL (liveS (n + 1) mn b.1 l un).1 b.1.length).length + (wrongL (liveS (n + 1) mn b.1 l un).1 b.2 b.1.length).length = 0) := rfl
      have hhit := slow_hit (ok := okAt b l mn un) (u := un) hpos'
      have hmiss := slow_miss (ok := okAt b l mn un) (u := un) hpos'
      have e1 : n + 1 - 1 = n := rfl
      rw [e1] at hmiss
      have wn1 : IntKind.i64.wrap (((n + 1 : Nat) : Int) - 1) = (n : Int) := by rw [w_i64 (by omega) (by omega)]; omega
      have wu1 : IntKind.i64.wrap ((un : Int) + 1) = ((un + 1 : Nat) : Int) := by rw [w_i64 (by omega) (by omega)]; omega
      have wu2 : IntKind.i64.wrap (((un + 1 : Nat) : Int) - 1) = (un : Int) := by rw [w_i64 (by omega) (by omega)]; omega
      generalize (liveS (n + 1) mn b.1 l un) = ls at *
      generalize lostL ls.1 b.1.length = L1 at *
      generalize wrongL ls.1 b.2 b.1.length = L2 at *
      have wl : IntKind.i64.wrap ((L1.length : Int) + (L2.length : Int)) = ((L1.length + L2.length : Nat) : Int) := by rw [w_i64 (by omega) (by omega)]; omega
      generalize hnn : n + 1 = m at *
      have n0 : ¬ 0 = t.nx := by omega
      have n1 : ¬ 1 = t.nx := by omega
      simp -dsimp [i14, hpos, hpos', i5, i6, i2, i3, h0, h1]
      refine call_pure hlv (by simp) (by simp) ?_
      simp -dsimp
      refine call_pure hlo (by simp) (by simp) ?_
      simp -dsimp [wl]
      by_cases q : L1.length + L2.length = 0
      · have := hhit (by rw [hok]; simpa using q)
        rw [this] at hS
        have q1 : L1 = [] := List.eq_nil_of_length_eq_zero (by omega)
        have q2 : L2 = [] := List.eq_nil_of_length_eq_zero (by omega)
        simp -dsimp [q1, q2, i14, ← hS]
      · have := hmiss (by rw [hok]; simpa using q)
        rw [this] at hS
        have q' : ¬ ((L1.length : Int) + (L2.length : Int) = 0) := by omega
        simp -dsimp [q', i14, i3, wu1]
        by_cases q3 : un + 1 < m
        · rw [if_pos q3] at hS
          have q3' : (un : Int) + 1 < (m : Int) := by omega
          have wu3 : IntKind.i64.wrap (un : Int) = (un : Int) := w_i64 (by omega) (by omega)
          simp -dsimp [q3', i3, wu1, wu3, i5, i6, i2, n0, n1, h0]
          exact ⟨un, by omega, rfl, by omega, by omega, hS⟩
        · rw [if_neg q3] at hS
          have q3' : ¬ (un : Int) + 1 < (m : Int) := by omega
          simp -dsimp [q3', i3, i14, wn1, i5, i6, i2, n0, n1, h0]
          exact ⟨n, by omega, rfl, by omega, by omega, hS⟩
theorem SlowestR_ok (b : Bank) (r : Int × Int) (l : List Flip) (u most : Int) : OkF Try.prog 48 [bkV b, rdV r, rF l, .int .i64 u, .int .i64 most] (.tup [.int .i64 (slowS b r l u most).1, .bool (slowS b r l u most).2.1, .int .i64 (slowS b r l u most).2.2], []) := by
  refine OkF.W0 hm h48 (of_decide_eq_true rfl) ?_
  unfold c48
  obtain ⟨ev0, mn0⟩ := r
  simp -dsimp
  refine call_pure (CheckFlipsR_ok b l) (by simp) rfl ?_
  simp -dsimp
  have bad : ∀ v, slowE b (ev0, mn0) l u most = v → v ≠ 0 → slowS b (ev0, mn0) l u most = (0, false, v) := fun v h1 h2 => by unfold slowS; rw [h1, if_pos h2]
  by_cases a0 : flipsE b l = 0
  rotate_left
  · have e := bad (flipsE b l) (by unfold slowE; rw [if_pos a0]) a0
    simp -dsimp [a0, e]
  simp -dsimp [a0]
  refine call_pure (within_ok _ _ _) (by simp) rfl ?_
  simp -dsimp
  have one : inB mn0 1 5000 = false ∨ inB u 0 1000000000000 = false → slowS b (ev0, mn0) l u most = (0, false, 1) := fun a1 => bad 1 (by unfold slowE; rw [if_neg (by simpa using a0), if_pos a1]) (by decide)
  cases x1 : inB mn0 1 5000 with
  | false => simp -dsimp [one (.inl x1)]
  | true =>
  simp -dsimp
  refine call_pure (within_ok _ _ _) (by simp) rfl ?_
  simp -dsimp
  cases x2 : inB u 0 1000000000000 with
  | false => simp -dsimp [one (.inr x2)]
  | true =>
  have a1 : ¬ (inB mn0 1 5000 = false ∨ inB u 0 1000000000000 = false) := by simp [x1, x2]
  have b1 : 1 ≤ mn0 ∧ mn0 ≤ 5000 ∧ 0 ≤ u ∧ u ≤ 1000000000000 := by
    simp [inB] at x1 x2
    omega
  have d0' : ¬ mn0 = 0 := by omega
  have d2 : (20000 : Int).tdiv mn0 = 20000 / mn0 := Int.tdiv_eq_ediv_of_nonneg (by omega)
  have q4 : 0 ≤ 20000 / mn0 := Int.ediv_nonneg (by omega) (by omega)
  have q5 : 20000 / mn0 ≤ 20000 := Int.ediv_le_self _ (by omega)
  have w2 : IntKind.i64.wrap (20000 / mn0) = 20000 / mn0 := w_i64 (by omega) (by omega)
  have key : 20000 / mn0 < u ↔ 20000 < u * mn0 := Int.ediv_lt_iff_lt_mul (by omega)
  simp -dsimp [d0', d2, w2]
  by_cases a2 : 20000 < u * mn0
  · have e := bad 2 (by unfold slowE; rw [if_neg (by simpa using a0), if_neg a1, if_pos a2]) (by decide)
    have := key.2 a2
    simp -dsimp [this, e]
  have a2' : ¬ 20000 / mn0 < u := fun h => a2 (key.1 h)
  simp -dsimp [a2']
  refine call_pure (within_ok _ _ _) (by simp) rfl ?_
  simp -dsimp
  cases a3 : inB most 1 1000000000000 with
  | false =>
    have e := bad 1 (by unfold slowE; rw [if_neg (by simpa using a0), if_neg a1, if_neg a2, if_pos a3]) (by decide)
    simp -dsimp [e]
  | true =>
  have hz : slowE b (ev0, mn0) l u most = 0 := by unfold slowE; rw [if_neg (by simpa using a0), if_neg a1, if_neg a2, if_neg (by rw [a3]; decide)]
  obtain ⟨_, mn, un, mo, h1, rfl, rfl, m1, m2, m3, m4, m5, m6⟩ := slow_good hz
  simp only at h1
  subst h1
  obtain ⟨hb, hl2, hl⟩ := flips_good a0
  have hbl := hb.len; have hbm := hb.most
  have hE : slowS b (ev0, ((mn : Nat) : Int)) l (un : Int) (mo : Int) = ((slow (okAt b l mn un) un mo).1, (slow (okAt b l mn un) un mo).2, 0) := by unfold slowS; rw [if_neg (by simpa using hz)]; rfl
  rw [hE]
  clear bad one key d2 w2 q4 q5 a2' a2 a3 hz hE
  have wu1 : IntKind.i64.wrap ((un : Int) + 1) = ((un + 1 : Nat) : Int) := by rw [w_i64 (by omega) (by omega)]; omega
  have hpl0 := play_ok b (un + 1) mn un l hb hl hl2 (by omega) (by omega) m2 m3 (div_work m4)
  obtain ⟨k1, k2, k3⟩ := live_len (ev := un + 1) (mn := mn) (u := un) hb.pos hb.c hl
  have hlo := lostR_ok (liveS (un + 1) mn b.1 l un).1 b.2 k2 (by omega)
  have hwr := wrongR_ok (liveS (un + 1) mn b.1 l un).1 b.2 k2 (by omega) (by omega)
  rw [k1] at hlo hwr
  have b2 := lostL_len (liveS (un + 1) mn b.1 l un).1 b.1.length
  have b3 := wrongL_len (liveS (un + 1) mn b.1 l un).1 b.2 b.1.length
  have hok0 : okAt b l mn un (un + 1) = decide ((lostL (liveS (un + 1) mn b.1 l un).1 b.1.length).length + (wrongL (liveS (un + 1) mn b.1 l un).1 b.2 b.1.length).length = 0) := rfl
  generalize (liveS (un + 1) mn b.1 l un) = ls at *
  generalize lostL ls.1 b.1.length = L1 at *
  generalize wrongL ls.1 b.2 b.1.length = L2 at *
  have wl : IntKind.i64.wrap ((L1.length : Int) + (L2.length : Int)) = (L1.length : Int) + (L2.length : Int) := by rw [w_i64 (by omega) (by omega)]
  simp -dsimp [wu1, fillS]
  refine call_pure hpl0 (by simp) (by simp) ?_
  have hit : un < mo → okAt b l mn un (un + 1) = true → slow (okAt b l mn un) un mo = ((mo : Int), true) := fun h1 h2 => slow_hit (by omega) (by rw [okAt_none h1]; exact h2)
  have miss : (un < mo → okAt b l mn un (un + 1) = false) → slow (okAt b l mn un) un mo = srch (okAt b l mn un) (min mo un) := fun h => by
    unfold slow
    rw [if_neg]
    rintro ⟨q1, q2⟩
    rw [okAt_none q1, h q1] at q2
    cases q2
  have hloop : ∀ (t : St) (Q : E → St → Prop), t.t 5 = .pt 0 0 0 → t.t 6 = .pt 1 0 0 → t.t 2 = rF l → t.t 3 = .int .i64 (un : Int) → t.t 16 = .int .i64 ((min mo un : Nat) : Int) → 2 ≤ t.nx → t.h 0 = some ⟨0, 0, [rI b.1, rI b.2], none⟩ → t.h 1 = some ⟨0, 0, [.int .i64 ev0, .int .i64 (mn : Int)], none⟩ →
      (∀ t' : St, t'.t 10 = .int .i64 (srch (okAt b l mn un) (min mo un)).1 → t'.t 11 = .bool (srch (okAt b l mn un) (min mo un)).2 → t'.t 12 = .int .i64 0 → (srch (okAt b l mn un) (min mo un)).2 = true → Q .ret t') →
      (∀ t' : St, srch (okAt b l mn un) (min mo un) = (0, false) → Q (.exit 0) t') → LP Try.prog l48_0 Q t ⟨⟩ ⟨⟩ := by
    intro t Q i5 i6 i2 i3 i16 inx h0 h1 qret qex
    refine loop_dec (fun n t => t.t 5 = .pt 0 0 0 ∧ t.t 6 = .pt 1 0 0 ∧ t.t 2 = rF l ∧ t.t 3 = .int .i64 (un : Int) ∧ t.t 16 = .int .i64 (n : Int) ∧ 2 ≤ t.nx ∧ t.h 0 = some ⟨0, 0, [rI b.1, rI b.2], none⟩ ∧ t.h 1 = some ⟨0, 0, [.int .i64 ev0, .int .i64 (mn : Int)], none⟩ ∧ n ≤ min mo un ∧ srch (okAt b l mn un) n = srch (okAt b l mn un) (min mo un)) (min mo un) ⟨i5, i6, i2, i3, i16, inx, h0, h1, Nat.le_refl _, rfl⟩ (fun n t hI => ?_)
    obtain ⟨i5, i6, i2, i3, i16, inx, h0, h1, hn, hS⟩ := hI
    unfold l48_0
    cases n with
    | zero =>
      simp -dsimp [i16]
      exact qex _ hS.symm
    | succ n =>
      have hpos : (0 : Int) < ((n + 1 : Nat) : Int) := by omega
      have hpos' : 0 < n + 1 := by omega
      obtain ⟨k1, k2, k3⟩ := live_len (ev := n + 1) (mn := mn) (u := un) hb.pos hb.c hl
      have hlv := play_ok b (n + 1) mn un l hb hl hl2 (by omega) (by omega) m2 m3 (div_work m4)
      have hlo := lostR_ok (liveS (n + 1) mn b.1 l un).1 b.2 k2 (by omega)
      have hwr := wrongR_ok (liveS (n + 1) mn b.1 l un).1 b.2 k2 (by omega) (by omega)
      rw [k1] at hlo hwr
      have b2 := lostL_len (liveS (n + 1) mn b.1 l un).1 b.1.length
      have b3 := wrongL_len (liveS (n + 1) mn b.1 l un).1 b.2 b.1.length
      have hok : okAt b l mn un (n + 1) = decide ((lostL (liveS (n + 1) mn b.1 l un).1 b.1.length).length + (wrongL (liveS (n + 1) mn b.1 l un).1 b.2 b.1.length).length = 0) := rfl
      have hsr : srch (okAt b l mn un) (n + 1) = if okAt b l mn un (n + 1) = true then (((n + 1 : Nat) : Int), true) else srch (okAt b l mn un) n := rfl
      have wn1 : IntKind.i64.wrap (((n + 1 : Nat) : Int) - 1) = (n : Int) := by rw [w_i64 (by omega) (by omega)]; omega
      generalize (liveS (n + 1) mn b.1 l un) = ls at *
      generalize lostL ls.1 b.1.length = L1 at *
      generalize wrongL ls.1 b.2 b.1.length = L2 at *
      have wl : IntKind.i64.wrap ((L1.length : Int) + (L2.length : Int)) = (L1.length : Int) + (L2.length : Int) := by rw [w_i64 (by omega) (by omega)]
      generalize hnn : n + 1 = m at *
      have n0 : ¬ 0 = t.nx := by omega
      have n1 : ¬ 1 = t.nx := by omega
      simp -dsimp [i16, hpos, hpos', i5, i6, i2, i3, h0, h1, fillS]
      refine call_pure hlv (by simp) (by simp) ?_
      simp -dsimp
      refine call_pure hlo (by simp) (by simp) ?_
      simp -dsimp
      refine call_pure hwr (by simp) (by simp) ?_
      simp -dsimp [wl]
      by_cases q : L1.length + L2.length = 0
      · rw [if_pos (by rw [hok]; simpa using q)] at hsr
        rw [hsr] at hS
        have q1 : L1 = [] := List.eq_nil_of_length_eq_zero (by omega)
        have q2 : L2 = [] := List.eq_nil_of_length_eq_zero (by omega)
        simp -dsimp [q1, q2, i16]
        exact qret _ (by simp -dsimp [← hS]) (by simp -dsimp [← hS]) (by simp -dsimp) (by rw [← hS])
      · rw [if_neg (by rw [hok]; simpa using q)] at hsr
        rw [hsr] at hS
        have q' : ¬ ((L1.length : Int) + (L2.length : Int) = 0) := by omega
        simp -dsimp [q', i16, i3, wn1, i5, i6, i2, n0, n1, h0, h1]
        exact ⟨n, by omega, rfl, by omega, by omega, hS⟩
  simp -dsimp
  by_cases q : un < mo
  · have qi : (un : Int) < (mo : Int) := by omega
    simp -dsimp [q, qi]
    refine call_pure hlo (by simp) (by simp) ?_
    simp -dsimp
    refine call_pure hwr (by simp) (by simp) ?_
    simp -dsimp [wl]
    by_cases q2 : L1.length + L2.length = 0
    · have := hit q (by rw [hok0]; simpa using q2)
      have q1 : L1 = [] := List.eq_nil_of_length_eq_zero (by omega)
      have q2 : L2 = [] := List.eq_nil_of_length_eq_zero (by omega)
      simp -dsimp [q1, q2, this]
    · have := miss (fun _ => by rw [hok0]; simpa using q2)
      rw [this]
      have q' : ¬ ((L1.length : Int) + (L2.length : Int) = 0) := by omega
      have hmin : min (mo : Int) (un : Int) = ((min mo un : Nat) : Int) := by omega
      simp -dsimp [q', hmin]
      generalize min mo un = mm at *
      refine hloop _ _ (by simp -dsimp) (by simp -dsimp) (by simp -dsimp) (by simp -dsimp) (by simp -dsimp) (by simp -dsimp) (by simp -dsimp) (by simp -dsimp) (fun t' e1 e2 e3 e4 => ?_) (fun t' e1 => ?_)
      · simp -dsimp [e1, e2, e3]
      · simp -dsimp [e1]
  · have qi : ¬ (un : Int) < (mo : Int) := by omega
    have := miss (fun h => absurd h q)
    rw [this]
    have hmin : min (mo : Int) (un : Int) = ((min mo un : Nat) : Int) := by omega
    simp -dsimp [q, qi, hmin]
    generalize min mo un = mm at *
    refine hloop _ _ (by simp -dsimp) (by simp -dsimp) (by simp -dsimp) (by simp -dsimp) (by simp -dsimp) (by simp -dsimp) (by simp -dsimp) (by simp -dsimp) (fun t' e1 e2 e3 e4 => ?_) (fun t' e1 => ?_)
    · simp -dsimp [e1, e2, e3]
    · simp -dsimp [e1]
theorem MemorySlowestMatchesSpec (b : Bank) (r : Int × Int) (l : List Flip) (u most : Int) : OkF Try.prog 11 [bkV b, rdV r, rF l, .int .i64 u, .int .i64 most] (.bool true, []) := by
  refine OkF.W0 hm h11 (of_decide_eq_true rfl) ?_
  unfold c11
  simp -dsimp
  refine call_pure (Slowest_ok b r l u most) (by simp) (by simp) ?_
  simp -dsimp
  refine call_pure (SlowestR_ok b r l u most) (by simp) (by simp) ?_
  simp -dsimp
  refine call_pure awake_ok (by simp) rfl ?_
  simp -dsimp
theorem srch_spec (ok : Nat → Bool) : ∀ n, (srch ok n).2 = true → ∃ m, (srch ok n).1 = ((m : Nat) : Int) ∧ 1 ≤ m ∧ m ≤ n ∧ ok m = true
  | 0, h => by cases h
  | n + 1, h => by
    unfold srch at h ⊢
    split
    · rename_i q
      exact ⟨n + 1, rfl, by omega, Nat.le_refl _, q⟩
    · rename_i q
      rw [if_neg q] at h
      obtain ⟨m, h1, h2, h3, h4⟩ := srch_spec ok n h
      exact ⟨m, h1, h2, by omega, h4⟩
theorem srch_zero (ok : Nat → Bool) : ∀ n, (srch ok n).2 = false → (srch ok n).1 = 0
  | 0, h => rfl
  | n + 1, h => by
    unfold srch at h ⊢
    split
    · rename_i q
      rw [if_pos q] at h; cases h
    · rename_i q
      rw [if_neg q] at h
      exact srch_zero ok n h
theorem slow_spec {ok : Nat → Bool} {u n : Nat} (h0 : 1 ≤ n) (h : (slow ok u n).2 = true) : ∃ m, (slow ok u n).1 = ((m : Nat) : Int) ∧ 1 ≤ m ∧ m ≤ n ∧ ok m = true := by
  unfold slow at h ⊢
  split
  · rename_i q
    exact ⟨n, rfl, h0, Nat.le_refl _, q.2⟩
  · rename_i q
    rw [if_neg q] at h
    obtain ⟨m, h1, h2, h3, h4⟩ := srch_spec ok _ h
    exact ⟨m, h1, h2, by omega, h4⟩
theorem slow_zero2 {ok : Nat → Bool} {u n : Nat} (h : (slow ok u n).2 = false) : (slow ok u n).1 = 0 := by
  unfold slow at h ⊢
  split
  · rename_i q
    rw [if_pos q] at h; cases h
  · rename_i q
    rw [if_neg q] at h
    exact srch_zero ok _ h
theorem MemorySlowestIsSlowEnough (b : Bank) (r : Int × Int) (l : List Flip) (u most : Int) : OkF Try.prog 14 [bkV b, rdV r, rF l, .int .i64 u, .int .i64 most] (.bool true, []) := by
  refine OkF.W0 hm h14 (of_decide_eq_true rfl) ?_
  unfold c14
  simp -dsimp
  refine call_pure (Slowest_ok b r l u most) (by simp) (by simp) ?_
  simp -dsimp
  by_cases hz : slowE b r l u most = 0
  · obtain ⟨hf, mn, un, mo, h1, rfl, rfl, m1, m2, m3, m4, m5, m6⟩ := slow_good hz
    obtain ⟨ev0, mn0⟩ := r
    simp only at h1
    subst h1
    have hE : slowS b (ev0, ((mn : Nat) : Int)) l (un : Int) (mo : Int) = ((slow (okAt b l mn un) un mo).1, (slow (okAt b l mn un) un mo).2, 0) := by unfold slowS; rw [if_neg (by simpa using hz)]; rfl
    rw [hE]
    simp -dsimp
    cases hs : (slow (okAt b l mn un) un mo).2 with
    | false =>
      simp -dsimp [slow_zero2 hs]
      refine call_pure awake_ok (by simp) rfl ?_
      simp -dsimp
    | true =>
      obtain ⟨m, e1, e2, e3, e4⟩ := slow_spec m5 hs
      rw [e1]
      have hb := (flips_good hf).1
      have hask : askE b (((m : Nat) : Int), ((mn : Nat) : Int)) l un = 0 := by
        have w : ((un / m * mn : Nat) : Int) ≤ 1000000 := by have := div_work (ev := m) m4; omega
        rw [Int.natCast_mul, Int.natCast_ediv] at w
        unfold askE
        rw [if_neg (by simpa using hf), if_neg (by simp [inB]; omega), if_neg (by simp only; omega)]
      have hok : (lostL (liveS m mn b.1 l un).1 b.1.length).length + (wrongL (liveS m mn b.1 l un).1 b.2 b.1.length).length = 0 := by simpa [okAt] using e4
      have hL : lostS b (((m : Nat) : Int), ((mn : Nat) : Int)) l un = ([], 0) := by
        unfold lostS
        rw [if_neg (by simpa using hask)]
        simp only [Int.toNat_natCast]
        rw [List.eq_nil_of_length_eq_zero (l := lostL (liveS m mn b.1 l un).1 b.1.length) (by omega)]
      have hW : wrongS b (((m : Nat) : Int), ((mn : Nat) : Int)) l un = ([], 0) := by
        unfold wrongS
        rw [if_neg (by simpa using hask)]
        simp only [Int.toNat_natCast]
        rw [List.eq_nil_of_length_eq_zero (l := wrongL (liveS m mn b.1 l un).1 b.2 b.1.length) (by omega)]
      have hlo := Lost_ok b (((m : Nat) : Int), ((mn : Nat) : Int)) l un
      have hwr := Wrong_ok b (((m : Nat) : Int), ((mn : Nat) : Int)) l un
      rw [hL] at hlo
      rw [hW] at hwr
      have e3' : (m : Int) ≤ (mo : Int) := by omega
      simp -dsimp
      refine call_pure hlo (by simp) (by simp) ?_
      simp -dsimp
      refine call_pure hwr (by simp) (by simp) ?_
      simp -dsimp [e3, e3']
      refine call_pure awake_ok (by simp) rfl ?_
      simp -dsimp
  · have hE : slowS b r l u most = (0, false, slowE b r l u most) := by unfold slowS; rw [if_pos hz]
    simp -dsimp [hE, hz]
    refine call_pure awake_ok (by simp) rfl ?_
    simp -dsimp
end Go.Proofs.P3
