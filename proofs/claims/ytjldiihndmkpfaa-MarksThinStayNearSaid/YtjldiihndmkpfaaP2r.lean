/- Thin of both sides. -/
import Derived.Test.YtjldiihndmkpfaaP2q
set_option linter.unusedVariables false
set_option linter.unusedSimpArgs false
set_option maxRecDepth 10000
set_option maxHeartbeats 8000000
namespace Go.Proofs.P3
open Go.Ex
structure TA0 (m : List Mark) (s : Int) (i f : Nat) (acc : List Mark) (t : St) : Prop where
  i0 : i < m.length
  fu : m.length ≤ i + f
  len : acc.length ≤ i + 1
  eq : thinF m s f i acc = thinF m s m.length 0 [mAt m 0]
  t0 : t.t 0 = rM m
  t1 : t.t 1 = .int .i64 s
  t8 : t.t 8 = .int .i64 i
  ac : Acc markCd t.h t.nx (t.t 7) acc
def TA (m : List Mark) (s : Int) (n : Nat) (t : St) : Prop := ∃ (i f : Nat) (acc : List Mark), n = m.length - i ∧ TA0 m s i f acc t
theorem thin_step {m : List Mark} {s : Int} {i f fr : Nat} {acc : List Mark} (hi : i + 1 < m.length) (hf : IsNx m s i fr m.length) (fu : m.length ≤ i + f) (eq : thinF m s f i acc = thinF m s m.length 0 [mAt m 0]) :
    ∃ f', f = f' + 1 ∧ m.length ≤ fr + f' ∧ thinF m s f' fr (acc ++ [mAt m fr]) = thinF m s m.length 0 [mAt m 0] := by
  cases f with
  | zero => omega
  | succ f =>
    have e := nxN_of hf
    have := hf.gt
    refine ⟨f, rfl, by omega, ?_⟩
    rw [← eq]
    conv => rhs; unfold thinF
    rw [if_pos hi, e]
theorem thin_stop {m : List Mark} {s : Int} {i f : Nat} {acc : List Mark} (hi : ¬ i + 1 < m.length) : thinF m s f i acc = acc := by
  cases f with
  | zero => rfl
  | succ f => unfold thinF; rw [if_neg hi]
theorem First2_ok (a b : Int) : OkF Try.prog 65 [rI [a, b]] (.int .i64 (if a ≠ 0 then a else b), []) := by
  have hf := First_ok [a, b] (by simp)
  have : firstE [a, b] = if a ≠ 0 then a else b := by
    simp only [firstE]
    by_cases h : a = 0 <;> by_cases h2 : b = 0 <;> simp [h, h2]
  rwa [this] at hf
theorem thinE_eq (m : List Mark) (s : Int) : (if marksE m ≠ 0 then marksE m else rngE s 0 1000000000) = thinE m s := by
  unfold thinE rngE
  cases inB s 0 1000000000 <;> simp
theorem thinE_good {m : List Mark} {s : Int} (h : thinE m s = 0) : Good m ∧ 0 ≤ s ∧ s ≤ 1000000000 := by
  unfold thinE at h
  split at h
  · rename_i q; exact absurd h q
  rename_i q
  split at h
  · cases h
  rename_i q2
  simp only [Bool.not_eq_false] at q2
  simp [inB] at q2
  exact ⟨Good.of (marks_good (by simpa using q)), q2.1, q2.2⟩
theorem Thin_ok (l : List Mark) (s : Int) : OkF Try.prog 34 [rM l, .int .i64 s] (.tup [rM (thinS l s).1, .int .i64 (thinS l s).2], []) := by
  refine OkF.W0 hm h34 (of_decide_eq_true rfl) ?_
  unfold c34
  have hf := First2_ok (marksE l) (rngE s 0 1000000000)
  rw [thinE_eq] at hf
  simp -dsimp
  refine call_pure (CheckMarks_ok l) (by simp) rfl ?_
  simp -dsimp
  refine call_pure (Range_ok _ _ _) (by simp) rfl ?_
  simp -dsimp [fillA, toRO2]
  refine call_int hf ?_
  simp -dsimp
  by_cases a0 : thinE l s = 0
  rotate_left
  · have e : thinS l s = ([], thinE l s) := by unfold thinS; rw [if_pos a0]
    simp -dsimp [a0, e]
  have e : thinS l s = (thinF l s l.length 0 [mAt l 0], 0) := by unfold thinS; rw [if_neg (by simpa using a0)]
  obtain ⟨g, s0, s1⟩ := thinE_good a0
  have hl := g.most; have hp := g.pos
  have hg0 := get_mAt hp
  have hia0 : ∀ h K, iaddrK h (.ro l.length (fl markCd l)) (.int .i64 0) 3 K ⟨⟩ = K (.rp (fl markCd l) 0) [] := fun h K => by
    have := m_ia (h := h) (kk := .i64) (K := K) hg0
    simpa using this
  have hld0 : ∀ h, ldA h (.rp (fl markCd l) 0) (some 3) = some (mkV (mAt l 0)) := fun h => by
    have := m_ld (h := h) hg0
    simpa using this
  simp -dsimp [a0, hia0, hld0, fillA]
  refine loop_dec (TA l s) l.length ?_ (fun n t hI => ?_)
  · refine ⟨0, l.length, [mAt l 0], rfl, ⟨hp, by omega, by simp, rfl, by simp -dsimp, by simp -dsimp, by simp -dsimp, ?_⟩⟩
    simp -dsimp
    exact Acc.mk (l := [mAt l 0]) (by omega) (by simp [markCd, Cd.pair, fl])
  · obtain ⟨i, f, acc, hn, k0, fu, kl, keq, t0, t1, t8, hA⟩ := hI
    have w0 : IntKind.i64.wrap ((l.length : Int) - 1) = (l.length : Int) - 1 := w_i64 (by omega) (by omega)
    have w1 : IntKind.i64.wrap ((i : Int) + 1) = ((i + 1 : Nat) : Int) := by rw [IntWalk.i64_in _ (by omega)]; simp
    unfold l34_1
    by_cases hi : i + 1 < l.length
    · have hi' : (i : Int) < (l.length : Int) - 1 := by omega
      simp -dsimp [t8, t0, w0, hi', w1]
      refine LP_cut (TO l s i t.nx t.h (t.t 7)) (thin_in g s0 s1 (n := l.length - (i + 1)) ⟨i + 1, i + 1, rfl, ?_⟩) ?_
      · refine ⟨by omega, by omega, by omega, hi, str_one _ _ _, fun k a b => by omega, by simp -dsimp, by simp -dsimp, by simp -dsimp [t0], by simp -dsimp [t1], by simp -dsimp, by simp -dsimp [t8], by simp -dsimp, by simp -dsimp, by simp -dsimp, fun k hk => ?_, .inl ⟨rfl, ?_, ?_⟩⟩
        · simp -dsimp [show ¬ k = t.nx by omega, show ¬ k = t.nx + 1 by omega]
        · simp -dsimp
        · simp -dsimp
      · rintro e' t' ⟨rfl, fr, hfr, i11, i0, i1, i7, i8, inx, ih⟩
        obtain ⟨f', rfl, fu', keq'⟩ := thin_step hi hfr fu keq
        have hgt := hfr.gt; have hlt := hfr.lt
        have hgf := get_mAt hlt
        have hA' : Acc markCd t'.h t'.nx (t'.t 7) acc := by
          rw [i7]
          exact hA.mono (by omega) ih
        simp -dsimp [i11, i0, m_ia hgf, m_ld hgf, fillA]
        refine push_acc (x := mAt l fr) hA' rfl rfl (by omega) (by omega) fun v' h2 nx2 b1 b2 b3 b4 => ?_
        simp -dsimp [i11]
        exact ⟨l.length - fr, by omega, fr, f', _, rfl, ⟨hlt, fu', by simp; omega, keq', by simp -dsimp [i0], by simp -dsimp [i1], by simp -dsimp, by simpa using b1⟩⟩
    · have hi' : ¬ (i : Int) < (l.length : Int) - 1 := by omega
      have he := thin_stop (m := l) (s := s) (f := f) (acc := acc) hi
      rw [keq] at he
      rw [he] at e
      have ex := hA.ex1
      simp -dsimp [t8, t0, w0, hi', e]
      simp [ex]
end Go.Proofs.P3
