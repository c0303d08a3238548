/- Rates of the reference; the law of marks. -/
import Derived.Test.YtjldiihndmkpfaaP2l
set_option linter.unusedVariables false
set_option linter.unusedSimpArgs false
set_option maxRecDepth 10000
set_option maxHeartbeats 8000000
namespace Go.Proofs.P3
open Go.Ex
theorem RatesR_ok (l : List Mark) : OkF Try.prog 31 [rM l] (.tup [shV (ratesS l).1, shV (ratesS l).2.1, .int .i64 (ratesS l).2.2], []) := by
  refine OkF.G0 hm h31 (of_decide_eq_true rfl) ?_
  unfold c31
  simp -dsimp
  refine call_pure (CheckMarksR_ok l) (by simp) rfl ?_
  simp -dsimp
  by_cases a0 : marksE l = 0
  rotate_left
  · have e : ratesS l = ((0, 0), (0, 0), marksE l) := by unfold ratesS; rw [if_pos a0]
    simp -dsimp [a0, e, fillS]
  have g := Good.of (marks_good a0)
  have hl := g.most; have hp := g.pos
  by_cases h1 : l.length = 1
  · have e : ratesS l = ((0, 0), (0, 0), 11) := by unfold ratesS; rw [if_neg (by simpa using a0), if_pos h1]
    simp -dsimp [a0, h1, e, fillS]
  have h1' : ¬ (l.length : Int) = 1 := by omega
  have e : ratesS l = (lowN l (l.length - 1), highN l (l.length - 1), 0) := by unfold ratesS; rw [if_neg (by simpa using a0), if_neg h1]
  simp -dsimp [a0, h1, h1']
  refine loop_dec (RI l) l.length ?_ (fun n t hI => ?_)
  · exact ⟨0, rfl, by omega, by simp -dsimp, by simp -dsimp, by simp -dsimp, by simp -dsimp, by simp -dsimp, by simp -dsimp, by simp -dsimp, by simp -dsimp, by simp -dsimp, by simp -dsimp [lowN], by simp -dsimp [highN]⟩
  · obtain ⟨j, hn, hjl, i8, i0, i2, i3, i6, i7, inx, h0, h1, h2, h3⟩ := hI
    unfold l31_0
    by_cases hj : j + 1 < l.length
    · have hj' : (j : Int) + 1 < (l.length : Int) := by omega
      have hg := get_mAt (l := l) (k := j) (by omega)
      have hg' := get_mAt (l := l) (k := j + 1) hj
      have hs := g.inc j (j + 1) (by omega) hj
      obtain ⟨⟨a1, a2⟩, ⟨a3, a4⟩, _⟩ := g.ok j (by omega)
      obtain ⟨⟨b1, b2⟩, ⟨b3, b4⟩, _⟩ := g.ok (j + 1) hj
      have hr := rtA_ok g hj
      have hlo := lowN_ok g (j - 1)
      have hhi := highN_ok g (j - 1)
      have eL : lowN l (j + 1) = if j = 0 ∨ lsB (rtA l j) (lowN l j) = true then rtA l j else lowN l j := rfl
      have eH : highN l (j + 1) = if j = 0 ∨ lsB (highN l j) (rtA l j) = true then rtA l j else highN l j := rfl
      have cL := lowestR_ok (x := ((mAt l (j + 1)).2.1 - (mAt l j).2.1).toNat) (y := ((mAt l (j + 1)).1 - (mAt l j).1).toNat) (by omega) (by omega) (by omega) (by omega)
      rw [show low2 ((mAt l (j + 1)).2.1 - (mAt l j).2.1).toNat ((mAt l (j + 1)).1 - (mAt l j).1).toNat = rtA l j from rfl, Int.toNat_of_nonneg (by omega), Int.toNat_of_nonneg (by omega)] at cL
      generalize mAt l j = x at *
      generalize mAt l (j + 1) = y at *
      have w0 : IntKind.i64.wrap (j : Int) = j := IntWalk.i64_in _ (by omega)
      have w1 : IntKind.i64.wrap (y.2.1 - x.2.1) = y.2.1 - x.2.1 := w_i64 (by omega) (by omega)
      have w2 : IntKind.i64.wrap (y.1 - x.1) = y.1 - x.1 := w_i64 (by omega) (by omega)
      have w3 : IntKind.i64.wrap ((j : Int) + 1 + 1) = (j : Int) + 1 + 1 := IntWalk.i64_in _ (by omega)
      have n0 : ¬ 0 = t.nx := by omega
      have n1 : ¬ 1 = t.nx := by omega
      have n2 : ¬ 2 = t.nx := by omega
      have n3 : ¬ 3 = t.nx := by omega
      have n2' : ¬ t.nx = 2 := by omega
      have n3' : ¬ t.nx = 3 := by omega
      have fin : ∀ t' : St, t'.t 8 = .int .i64 ((j : Int) + 1 + 1) → t'.t 0 = rM l → t'.t 2 = .pt 0 0 0 → t'.t 3 = .pt 1 0 0 → t'.t 6 = .pt 2 0 0 → t'.t 7 = .pt 3 0 0 → 4 ≤ t'.nx → t'.h 0 = some ⟨0, 0, [.int .i64 0, .int .i64 0], none⟩ → t'.h 1 = some ⟨0, 0, [.int .i64 0, .int .i64 0], none⟩ → t'.h 2 = some ⟨0, 0, [.int .i64 (lowN l (j + 1)).1, .int .i64 (lowN l (j + 1)).2], none⟩ → t'.h 3 = some ⟨0, 0, [.int .i64 (highN l (j + 1)).1, .int .i64 (highN l (j + 1)).2], none⟩ → ∃ m, m < n ∧ RI l m t' := by
        intro t' q1 q2 q3 q4 q5 q6 q7 q8 q9 q10 q11
        exact ⟨l.length - (j + 1), by omega, j + 1, rfl, by omega, by rw [q1]; simp, q2, q3, q4, q5, q6, q7, q8, q9, q10, q11⟩
      simp -dsimp [i8, i0, hj, hj', m_ia hg, m_ia1 hg', m_l0 hg, m_l1 hg, m_l0 hg', m_l1 hg', w0, w1, w2]
      refine call_pure cL (by simp) (by simp) ?_
      generalize rtA l j = r at *
      generalize hLv : lowN l j = lo at *
      generalize hHv : highN l j = hi at *
      simp -dsimp [i8, n0, n1, n2, n3]
      by_cases q : j = 0
      · have eL' : lowN l (j + 1) = r := by rw [eL, if_pos (.inl q)]
        have eH' : highN l (j + 1) = r := by rw [eH, if_pos (.inl q)]
        have q1 : ((j : Int) + 1 = 1) = True := eq_true (by omega)
        simp -dsimp [i8, q1, i6, i7, h2, h3, n2, n3, n2', n3', w3]
        exact fin _ (by simp -dsimp) (by simp -dsimp [i0]) (by simp -dsimp [i2]) (by simp -dsimp [i3]) (by simp -dsimp [i6]) (by simp -dsimp [i7]) (by simp -dsimp; omega) (by simp -dsimp [h0, n0]) (by simp -dsimp [h1, n1]) (by simp -dsimp [eL']) (by simp -dsimp [eH'])
      · have q1 : ¬ ((j : Int) + 1 = 1) := by omega
        simp -dsimp [i8, q1, i6, h2, n2, n2']
        have hlo' : ShOk lo := by rw [← hLv, show j = j - 1 + 1 by omega]; exact hlo (by omega)
        have hhi' : ShOk hi := by rw [← hHv, show j = j - 1 + 1 by omega]; exact hhi (by omega)
        refine call_pure (lessShare_ok hr hlo') (by simp) rfl ?_
        simp -dsimp
        cases cl : lsB r lo with
        | true =>
          have eL' : lowN l (j + 1) = r := by rw [eL, if_pos (.inr cl)]
          simp -dsimp [i8, q1, i6, i7, h2, h3, n2, n3, n2', n3']
          refine call_pure (lessShare_ok hhi' hr) (by simp) rfl ?_
          simp -dsimp
          cases ch : lsB hi r with
          | true =>
            have eH' : highN l (j + 1) = r := by rw [eH, if_pos (.inr ch)]
            simp -dsimp [i8, q1, i6, i7, h2, h3, n2, n3, n2', n3', w3]
            exact fin _ (by simp -dsimp) (by simp -dsimp [i0]) (by simp -dsimp [i2]) (by simp -dsimp [i3]) (by simp -dsimp [i6]) (by simp -dsimp [i7]) (by simp -dsimp; omega) (by simp -dsimp [h0, n0]) (by simp -dsimp [h1, n1]) (by simp -dsimp [eL']) (by simp -dsimp [eH'])
          | false =>
            have eH' : highN l (j + 1) = hi := by rw [eH, if_neg (by simp [q, ch])]
            simp -dsimp [i8, q1, i6, i7, h2, h3, n2, n3, n2', n3', w3]
            exact fin _ (by simp -dsimp) (by simp -dsimp [i0]) (by simp -dsimp [i2]) (by simp -dsimp [i3]) (by simp -dsimp [i6]) (by simp -dsimp [i7]) (by simp -dsimp; omega) (by simp -dsimp [h0, n0]) (by simp -dsimp [h1, n1]) (by simp -dsimp [eL']) (by simp -dsimp [eH', h3, n3])
        | false =>
          have eL' : lowN l (j + 1) = lo := by rw [eL, if_neg (by simp [q, cl])]
          simp -dsimp [i8, q1, i6, i7, h2, h3, n2, n3, n2', n3']
          refine call_pure (lessShare_ok hhi' hr) (by simp) rfl ?_
          simp -dsimp
          cases ch : lsB hi r with
          | true =>
            have eH' : highN l (j + 1) = r := by rw [eH, if_pos (.inr ch)]
            simp -dsimp [i8, q1, i6, i7, h2, h3, n2, n3, n2', n3', w3]
            exact fin _ (by simp -dsimp) (by simp -dsimp [i0]) (by simp -dsimp [i2]) (by simp -dsimp [i3]) (by simp -dsimp [i6]) (by simp -dsimp [i7]) (by simp -dsimp; omega) (by simp -dsimp [h0, n0]) (by simp -dsimp [h1, n1]) (by simp -dsimp [eL', h2, n2]) (by simp -dsimp [eH'])
          | false =>
            have eH' : highN l (j + 1) = hi := by rw [eH, if_neg (by simp [q, ch])]
            simp -dsimp [i8, q1, i6, i7, h2, h3, n2, n3, n2', n3', w3]
            exact fin _ (by simp -dsimp) (by simp -dsimp [i0]) (by simp -dsimp [i2]) (by simp -dsimp [i3]) (by simp -dsimp [i6]) (by simp -dsimp [i7]) (by simp -dsimp; omega) (by simp -dsimp [h0, n0]) (by simp -dsimp [h1, n1]) (by simp -dsimp [eL', h2, n2]) (by simp -dsimp [eH', h3, n3])
    · have hjl : j = l.length - 1 := by omega
      have hj' : ¬ (j : Int) + 1 < (l.length : Int) := by omega
      rw [← hjl] at e
      simp -dsimp [i8, i0, hj, hj', i6, i7, h2, h3, i2, i3, h0, h1, e]
theorem MarksMatchSpec (l : List Mark) (tick time : Int) : OkF Try.prog 5 [rM l, .int .i64 tick, .int .i64 time] (.bool true, []) := by
  refine OkF.W0 hm h5 (of_decide_eq_true rfl) ?_
  unfold c5
  simp -dsimp
  refine call_pure (TimeOf_ok l tick) (by simp) (by simp) ?_
  simp -dsimp
  refine call_pure (TimeOfR_ok l tick) (by simp) (by simp) ?_
  simp -dsimp
  refine call_pure (TickOf_ok l time) (by simp) (by simp) ?_
  simp -dsimp
  refine call_pure (TickOfR_ok l time) (by simp) (by simp) ?_
  simp -dsimp
  refine call_pure (CheckMarks_ok l) (by simp) rfl ?_
  simp -dsimp
  refine call_pure (CheckMarksR_ok l) (by simp) rfl ?_
  simp -dsimp
  refine call_pure (Rates_ok l) (by simp) (by simp) ?_
  simp -dsimp
  refine call_pure (RatesR_ok l) (by simp) (by simp) ?_
  simp -dsimp [seqA, eqCells, tagOf]
  refine call_pure awake2_ok (by simp) rfl ?_
  simp -dsimp
end Go.Proofs.P3
