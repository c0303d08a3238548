/- TimeOf and TickOf of both sides. -/
import Derived.Test.YtjldiihndmkpfaaP2i
set_option linter.unusedVariables false
set_option linter.unusedSimpArgs false
set_option maxRecDepth 10000
set_option maxHeartbeats 8000000
namespace Go.Proofs.P3
open Go.Ex
theorem inB_true {n a b : Int} (h : a ≤ n ∧ n ≤ b) : inB n a b = true := by unfold inB; simp [h.1, h.2]
theorem inB_false {n a b : Int} (h : ¬ (a ≤ n ∧ n ≤ b)) : inB n a b = false := by
  unfold inB
  by_cases q : a ≤ n
  · simp [q]; omega
  · simp [q]
theorem TimeOf_ok (l : List Mark) (tick : Int) : OkF Try.prog 25 [rM l, .int .i64 tick] (.tup [.int .i64 (timeS l tick).1, .int .i64 (timeS l tick).2], []) := by
  refine OkF.W0 hm h25 (of_decide_eq_true rfl) ?_
  unfold c25
  simp -dsimp
  refine call_pure (CheckMarks_ok l) (by simp) rfl ?_
  simp -dsimp
  by_cases a0 : marksE l = 0
  rotate_left
  · have e : timeS l tick = (0, marksE l) := by unfold timeS; rw [if_neg a0]
    simp -dsimp [a0, e]
  have g := Good.of (marks_good a0)
  have hl := g.most; have hp := g.pos
  simp -dsimp [a0]
  refine call_pure (In_ok _ _ _) (by simp) rfl ?_
  by_cases ht : 0 ≤ tick ∧ tick ≤ 1000000000000
  rotate_left
  · have e : timeS l tick = (0, 1) := by unfold timeS; rw [if_pos a0, if_neg ht]
    rw [inB_false ht]
    simp -dsimp [e]
  rw [inB_true ht]
  simp -dsimp
  by_cases h1 : l.length = 1
  · have e : timeS l tick = (0, 11) := by unfold timeS; rw [if_pos a0, if_pos ht, if_pos h1]
    simp -dsimp [h1, e]
  have h1' : ¬ (l.length : Int) = 1 := by omega
  simp -dsimp [h1, h1']
  refine call_pure (at_ok g (by omega) ht.1 ht.2) (by simp) rfl ?_
  simp -dsimp
  refine call_pure (In_ok _ _ _) (by simp) rfl ?_
  by_cases hn : 0 ≤ atS l tick ∧ atS l tick ≤ 1000000000000
  · have e : timeS l tick = (atS l tick, 0) := by unfold timeS; rw [if_pos a0, if_pos ht, if_neg h1, if_pos hn]
    rw [inB_true hn]
    simp -dsimp [e]
  · have e : timeS l tick = (0, 1) := by unfold timeS; rw [if_pos a0, if_pos ht, if_neg h1, if_neg hn]
    rw [inB_false hn]
    simp -dsimp [e]
theorem TimeOfR_ok (l : List Mark) (tick : Int) : OkF Try.prog 26 [rM l, .int .i64 tick] (.tup [.int .i64 (timeS l tick).1, .int .i64 (timeS l tick).2], []) := by
  refine OkF.W0 hm h26 (of_decide_eq_true rfl) ?_
  unfold c26
  simp -dsimp
  refine call_pure (CheckMarksR_ok l) (by simp) rfl ?_
  simp -dsimp
  by_cases a0 : marksE l = 0
  rotate_left
  · have e : timeS l tick = (0, marksE l) := by unfold timeS; rw [if_neg a0]
    simp -dsimp [a0, e]
  have g := Good.of (marks_good a0)
  have hl := g.most; have hp := g.pos
  simp -dsimp [a0]
  refine call_pure (within2_ok _ _ _) (by simp) rfl ?_
  by_cases ht : 0 ≤ tick ∧ tick ≤ 1000000000000
  rotate_left
  · have e : timeS l tick = (0, 1) := by unfold timeS; rw [if_pos a0, if_neg ht]
    rw [inB_false ht]
    simp -dsimp [e]
  rw [inB_true ht]
  simp -dsimp
  by_cases h1 : l.length = 1
  · have e : timeS l tick = (0, 11) := by unfold timeS; rw [if_pos a0, if_pos ht, if_pos h1]
    simp -dsimp [h1, e]
  have h1' : ¬ (l.length : Int) = 1 := by omega
  simp -dsimp [h1, h1']
  refine call_pure (timeAt_ok g (by omega) ht.1 ht.2) (by simp) rfl ?_
  have hf := at_far g (by omega) tick
  unfold Far at hf
  simp -dsimp
  refine call_pure (within2_ok _ _ _) (by simp) rfl ?_
  by_cases hn : 0 ≤ atS l tick ∧ atS l tick ≤ 1000000000000
  · have e : timeS l tick = (atS l tick, 0) := by unfold timeS; rw [if_pos a0, if_pos ht, if_neg h1, if_pos hn]
    have er : atR l tick = atS l tick := by omega
    rw [er, inB_true hn]
    simp -dsimp [e]
  · have e : timeS l tick = (0, 1) := by unfold timeS; rw [if_pos a0, if_pos ht, if_neg h1, if_neg hn]
    rw [inB_false (show ¬ (0 ≤ atR l tick ∧ atR l tick ≤ 1000000000000) by omega)]
    simp -dsimp [e]
theorem tick_ex {m : List Mark} {time : Int} (h : time ≤ atS m 1000000000000) : ∃ n, IsTick m time n := by
  have key : ∀ k : Nat, k ≤ 1000000000001 → (∀ t : Int, 0 ≤ t → t < k → atS m t < time) ∨ ∃ n, IsTick m time n := by
    intro k
    induction k with
    | zero => intro _; exact .inl fun t a b => by omega
    | succ k ih =>
      intro hk
      rcases ih (by omega) with q | q
      · by_cases c : atS m k < time
        · refine .inl fun t a b => ?_
          by_cases e : t = k
          · rw [e]; exact c
          · exact q t a (by omega)
        · exact .inr ⟨k, ⟨by omega, by omega⟩, by omega, q⟩
      · exact .inr q
  rcases key 1000000000001 (Nat.le_refl _) with q | q
  · have := q 1000000000000 (by omega) (by omega)
    omega
  · exact q
open Classical in
noncomputable def tickN (m : List Mark) (time : Int) : Int := if h : ∃ n, IsTick m time n then Classical.choose h else 0
theorem tickN_of {m : List Mark} {time n : Int} (h : IsTick m time n) : tickN m time = n := by
  have hx : ∃ n, IsTick m time n := ⟨n, h⟩
  unfold tickN
  rw [dif_pos hx]
  exact (Classical.choose_spec hx).unique h
noncomputable def tickS (m : List Mark) (time : Int) : Int × Int :=
  if marksE m = 0 then (if 0 ≤ time ∧ time ≤ 1000000000000 then (if m.length = 1 then (0, 11) else (if atS m 1000000000000 < time then (0, 1) else (tickN m time, 0))) else (0, 1)) else (0, marksE m)
theorem TickOf_ok (l : List Mark) (time : Int) : OkF Try.prog 27 [rM l, .int .i64 time] (.tup [.int .i64 (tickS l time).1, .int .i64 (tickS l time).2], []) := by
  refine OkF.W0 hm h27 (of_decide_eq_true rfl) ?_
  unfold c27
  simp -dsimp
  refine call_pure (CheckMarks_ok l) (by simp) rfl ?_
  simp -dsimp
  by_cases a0 : marksE l = 0
  rotate_left
  · have e : tickS l time = (0, marksE l) := by unfold tickS; rw [if_neg a0]
    simp -dsimp [a0, e]
  have g := Good.of (marks_good a0)
  have hl := g.most; have hp := g.pos
  simp -dsimp [a0]
  refine call_pure (In_ok _ _ _) (by simp) rfl ?_
  by_cases ht : 0 ≤ time ∧ time ≤ 1000000000000
  rotate_left
  · have e : tickS l time = (0, 1) := by unfold tickS; rw [if_pos a0, if_neg ht]
    rw [inB_false ht]
    simp -dsimp [e]
  rw [inB_true ht]
  simp -dsimp
  by_cases h1 : l.length = 1
  · have e : tickS l time = (0, 11) := by unfold tickS; rw [if_pos a0, if_pos ht, if_pos h1]
    simp -dsimp [h1, e]
  have h1' : ¬ (l.length : Int) = 1 := by omega
  simp -dsimp [h1, h1']
  refine call_pure (at_ok g (by omega) (by decide) (by decide)) (by simp) rfl ?_
  simp -dsimp
  by_cases hb : atS l 1000000000000 < time
  · have e : tickS l time = (0, 1) := by unfold tickS; rw [if_pos a0, if_pos ht, if_neg h1, if_pos hb]
    simp -dsimp [hb, e]
  have e : tickS l time = (tickN l time, 0) := by unfold tickS; rw [if_pos a0, if_pos ht, if_neg h1, if_neg hb]
  have h2 : 2 ≤ l.length := by omega
  simp -dsimp [hb]
  refine loop_dec (fun n t => ∃ lo hi : Int, n = (hi - lo).toNat ∧ -1 ≤ lo ∧ lo < hi ∧ hi ≤ 1000000000000 ∧ (∀ t, 0 ≤ t → t ≤ lo → atS l t < time) ∧ time ≤ atS l hi ∧ t.t 0 = rM l ∧ t.t 1 = .int .i64 time ∧ t.t 7 = .int .i64 lo ∧ t.t 8 = .int .i64 hi) 1000000000001 ?_ (fun n t hI => ?_)
  · exact ⟨-1, 1000000000000, rfl, by omega, by omega, by omega, fun t a b => by omega, by omega, by simp -dsimp, by simp -dsimp, by simp -dsimp, by simp -dsimp⟩
  · obtain ⟨lo, hi, hn, k1, k2, k3, k4, k5, i0, i1, i7, i8⟩ := hI
    have w1 : IntKind.i64.wrap (hi - lo) = hi - lo := w_i64 (by omega) (by omega)
    unfold l27_0
    by_cases c : 1 < hi - lo
    · have e1 : (hi - lo).tdiv 2 = (hi - lo) / 2 := Int.tdiv_eq_ediv_of_nonneg (by omega)
      have w2 : IntKind.i64.wrap ((hi - lo) / 2) = (hi - lo) / 2 := w_i64 (by omega) (by omega)
      have m1 : lo < lo + (hi - lo) / 2 := by omega
      have m2 : lo + (hi - lo) / 2 < hi := by omega
      have w3 : IntKind.i64.wrap (lo + (hi - lo) / 2) = lo + (hi - lo) / 2 := w_i64 (by omega) (by omega)
      generalize hm0 : lo + (hi - lo) / 2 = mid at *
      simp -dsimp [i7, i8, w1, c, e1, w2, hm0, w3, i0]
      refine call_pure (at_ok g h2 (by omega) (by omega)) (by simp) rfl ?_
      simp -dsimp [i1]
      by_cases d : atS l mid < time
      · simp -dsimp [d]
        exact ⟨(hi - mid).toNat, by omega, mid, hi, rfl, by omega, m2, k3, fun t a b => by have := at_mono g h2 (t := t) (u := mid) a (by omega) b; omega, k5, by simp -dsimp [i0], by simp -dsimp [i1], by simp -dsimp, by simp -dsimp [i8]⟩
      · simp -dsimp [d]
        exact ⟨(mid - lo).toNat, by omega, lo, mid, rfl, by omega, m1, by omega, k4, by omega, by simp -dsimp [i0], by simp -dsimp [i1], by simp -dsimp [i7], by simp -dsimp⟩
    · have ht : IsTick l time hi := ⟨⟨by omega, k3⟩, k5, fun t t0 t1 => k4 t t0 (by omega)⟩
      have et := tickN_of ht
      simp -dsimp [i7, i8, w1, c, e, et]
theorem TickOfR_ok (l : List Mark) (time : Int) : OkF Try.prog 28 [rM l, .int .i64 time] (.tup [.int .i64 (tickS l time).1, .int .i64 (tickS l time).2], []) := by
  refine OkF.W0 hm h28 (of_decide_eq_true rfl) ?_
  unfold c28
  simp -dsimp
  refine call_pure (CheckMarksR_ok l) (by simp) rfl ?_
  simp -dsimp
  by_cases a0 : marksE l = 0
  rotate_left
  · have e : tickS l time = (0, marksE l) := by unfold tickS; rw [if_neg a0]
    simp -dsimp [a0, e]
  have g := Good.of (marks_good a0)
  have hl := g.most; have hp := g.pos
  simp -dsimp [a0]
  refine call_pure (within2_ok _ _ _) (by simp) rfl ?_
  by_cases ht : 0 ≤ time ∧ time ≤ 1000000000000
  rotate_left
  · have e : tickS l time = (0, 1) := by unfold tickS; rw [if_pos a0, if_neg ht]
    rw [inB_false ht]
    simp -dsimp [e]
  rw [inB_true ht]
  simp -dsimp
  by_cases h1 : l.length = 1
  · have e : tickS l time = (0, 11) := by unfold tickS; rw [if_pos a0, if_pos ht, if_pos h1]
    simp -dsimp [h1, e]
  have h1' : ¬ (l.length : Int) = 1 := by omega
  have h2 : 2 ≤ l.length := by omega
  have far : ∀ t, (atR l t < time ↔ atS l t < time) ∧ (time ≤ atR l t ↔ time ≤ atS l t) := fun t => by
    have := at_far g h2 t
    unfold Far at this
    omega
  simp -dsimp [h1, h1']
  refine call_pure (timeAt_ok g (by omega) (by decide) (by decide)) (by simp) rfl ?_
  simp -dsimp [(far 1000000000000).1]
  by_cases hb : atS l 1000000000000 < time
  · have e : tickS l time = (0, 1) := by unfold tickS; rw [if_pos a0, if_pos ht, if_neg h1, if_pos hb]
    simp -dsimp [hb, e]
  have e : tickS l time = (tickN l time, 0) := by unfold tickS; rw [if_pos a0, if_pos ht, if_neg h1, if_neg hb]
  simp -dsimp [hb]
  refine loop_dec (fun n t => ∃ lo hi : Int, n = (hi - lo).toNat ∧ 0 ≤ lo ∧ lo ≤ hi ∧ hi ≤ 1000000000000 ∧ (∀ t, 0 ≤ t → t < lo → atS l t < time) ∧ time ≤ atS l hi ∧ t.t 0 = rM l ∧ t.t 1 = .int .i64 time ∧ t.t 7 = .int .i64 lo ∧ t.t 8 = .int .i64 hi) 1000000000000 ?_ (fun n t hI => ?_)
  · exact ⟨0, 1000000000000, rfl, by omega, by omega, by omega, fun t a b => by omega, by omega, by simp -dsimp, by simp -dsimp, by simp -dsimp, by simp -dsimp⟩
  · obtain ⟨lo, hi, hn, k1, k2, k3, k4, k5, i0, i1, i7, i8⟩ := hI
    unfold l28_0
    by_cases c : lo < hi
    · have w1 : IntKind.i64.wrap (lo + hi) = lo + hi := w_i64 (by omega) (by omega)
      have e1 : (lo + hi).tdiv 2 = (lo + hi) / 2 := Int.tdiv_eq_ediv_of_nonneg (by omega)
      have w2 : IntKind.i64.wrap ((lo + hi) / 2) = (lo + hi) / 2 := w_i64 (by omega) (by omega)
      have m1 : lo ≤ (lo + hi) / 2 := by omega
      have m2 : (lo + hi) / 2 < hi := by omega
      generalize hm0 : (lo + hi) / 2 = mid at *
      have w3 : IntKind.i64.wrap (mid + 1) = mid + 1 := w_i64 (by omega) (by omega)
      simp -dsimp [i7, i8, w1, c, e1, w2, hm0, i0]
      refine call_pure (timeAt_ok g h2 (by omega) (by omega)) (by simp) rfl ?_
      simp -dsimp [i1, (far mid).2]
      by_cases d : time ≤ atS l mid
      · simp -dsimp [d]
        exact ⟨(mid - lo).toNat, by omega, lo, mid, rfl, by omega, m1, by omega, k4, by omega, by simp -dsimp [i0], by simp -dsimp [i1], by simp -dsimp [i7], by simp -dsimp⟩
      · simp -dsimp [d, w3]
        exact ⟨(hi - (mid + 1)).toNat, by omega, mid + 1, hi, rfl, by omega, by omega, k3, fun t a b => by have := at_mono g h2 (t := t) (u := mid) a (by omega) (by omega); omega, k5, by simp -dsimp [i0], by simp -dsimp [i1], by simp -dsimp, by simp -dsimp [i8]⟩
    · have ht : IsTick l time lo := ⟨⟨by omega, by omega⟩, by rw [show lo = hi by omega]; exact k5, k4⟩
      have et := tickN_of ht
      simp -dsimp [i7, i8, c, e, et]
end Go.Proofs.P3
