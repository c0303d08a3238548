/- The law: thinner marks stay near. -/
import Derived.Test.YtjldiihndmkpfaaP2t
set_option linter.unusedVariables false
set_option linter.unusedSimpArgs false
set_option maxRecDepth 10000
set_option maxHeartbeats 8000000
namespace Go.Proofs.P3
open Go.Ex
theorem MarksThinStayNear (l : List Mark) (s i : Int) : OkF Try.prog 7 [rM l, .int .i64 s, .int .i64 i] (.bool true, []) := by
  refine OkF.W0 hm h7 (of_decide_eq_true rfl) ?_
  unfold c7
  simp -dsimp
  refine call_pure (Thin_ok l s) (by simp) (by simp) ?_
  simp -dsimp
  by_cases a0 : thinE l s = 0
  rotate_left
  · have e : thinS l s = ([], thinE l s) := by unfold thinS; rw [if_pos a0]
    simp -dsimp [a0, e]
    refine call_pure awake2_ok (by simp) rfl ?_
    simp -dsimp
  have e : thinS l s = (thinF l s l.length 0 [mAt l 0], 0) := by unfold thinS; rw [if_neg (by simpa using a0)]
  have hme : marksE l = 0 := by
    unfold thinE at a0
    split at a0
    · rename_i q; exact absurd a0 q
    · rename_i q; simpa using q
  obtain ⟨g, s0, s1⟩ := thinE_good a0
  have hl := g.most; have hp := g.pos
  obtain ⟨tOk, tF, tL, tM, tN⟩ := thin_facts (marks_good hme) s0
  generalize thinF l s l.length 0 [mAt l 0] = T at *
  have tp := tOk.pos; have tm := tOk.most
  have hT := marks_mk tOk
  have hg0 := get_mAt hp
  have hgL := get_mAt (l := l) (k := l.length - 1) (by omega)
  have ia0 : ∀ (m : List Mark) (x : Mark), m[0]? = some x → ∀ h K, iaddrK h (.ro m.length (fl markCd m)) (.int .i64 0) 3 K ⟨⟩ = K (.rp (fl markCd m) 0) [] := fun m x hx h K => by
    have := m_ia (h := h) (kk := .i64) (K := K) hx
    simpa using this
  have ld0 : ∀ (m : List Mark) (x : Mark), m[0]? = some x → ∀ h, ldA h (.rp (fl markCd m) 0) (some 3) = some (mkV x) := fun m x hx h => by
    have := m_ld (h := h) hx
    simpa using this
  have iT0 := ia0 T _ tF
  have lT0 := ld0 T _ tF
  have il0 := ia0 l _ hg0
  have ll0 := ld0 l _ hg0
  have w1 : IntKind.i64.wrap ((T.length : Int) - 1) = ((T.length - 1 : Nat) : Int) := by rw [w_i64 (by omega) (by omega)]; omega
  have w2 : IntKind.i64.wrap ((l.length : Int) - 1) = ((l.length - 1 : Nat) : Int) := by rw [w_i64 (by omega) (by omega)]; omega
  have nT : ¬ T.length = 0 := by omega
  have nT2 : ¬ T = [] := fun h => nT (by rw [h]; rfl)
  have q1 := mark_seqT (mAt l 0) (mAt l 0)
  have q2 := mark_seqT (mAt l (l.length - 1)) (mAt l (l.length - 1))
  simp only [decide_true, Bool.not_true] at q1 q2
  generalize hx0 : mAt l 0 = x0 at *
  generalize hxL : mAt l (l.length - 1) = xL at *
  have mia := fun (h : Hp) (K : V → List Nat → Prop) => m_ia (h := h) (kk := .i64) (K := K) tL
  have mld := fun (h : Hp) => m_ld (h := h) tL
  have lia := fun (h : Hp) (K : V → List Nat → Prop) => m_ia (h := h) (kk := .i64) (K := K) hgL
  have lld := fun (h : Hp) => m_ld (h := h) hgL
  generalize hkT : T.length - 1 = kT at *
  generalize hkl : l.length - 1 = kl at *
  simp -dsimp [e, nT, nT2, iT0, lT0, il0, ll0, q1, w1, w2, mia, mld, lia, lld, q2]
  refine loop_to 9 T.length (fun k t => t.t 9 = .int .i64 k ∧ t.t 0 = rM l ∧ t.t 7 = rM T ∧ t.t 1 = .int .i64 s ∧ t.t 2 = .int .i64 i) (fun k t h => h.1) ?_ (fun k t hkl hI => ?_)
  · simp -dsimp
  · obtain ⟨i9, i0, i7, i1, i2⟩ := hI
    unfold l7_0
    by_cases hk : k < T.length
    · have hk' : (k : Int) < (T.length : Int) := by omega
      have wk : IntKind.i64.wrap ((k : Int) + 1) = ((k + 1 : Nat) : Int) := by rw [IntWalk.i64_in _ (by omega)]; simp
      have hg := get_mAt hk
      have hmem := tM k _ hg
      simp -dsimp [i9, i0, i7, hk, hk', m_ia hg, m_ld hg]
      refine call_pure (containsM_ok l (by omega) _ hmem) (by simp) rfl ?_
      simp -dsimp [i9, wk, i0, i7, i1, i2]
      omega
    · have hk' : ¬ (k : Int) < (T.length : Int) := by omega
      simp -dsimp [i9, i7, hk, hk']
      by_cases c1 : T.length < 2
      · have c1' : (T.length : Int) < 2 := by omega
        simp -dsimp [c1, c1']
        refine call_pure awake2_ok (by simp) rfl ?_
        simp -dsimp
      · have c1' : ¬ (T.length : Int) < 2 := by omega
        by_cases c2 : i < 0
        · simp -dsimp [c1, c1', i2, c2]
          refine call_pure awake2_ok (by simp) rfl ?_
          simp -dsimp
        · by_cases c3 : (l.length : Int) ≤ i
          · simp -dsimp [c1, c1', i2, c2, i0, c3]
            refine call_pure awake2_ok (by simp) rfl ?_
            simp -dsimp
          · obtain ⟨n, rfl⟩ := Int.eq_ofNat_of_zero_le (show 0 ≤ i by omega)
            have hn : n < l.length := by omega
            have hn' : ¬ l.length ≤ n := by omega
            have hgn := get_mAt hn
            obtain ⟨⟨r1, r2⟩, r3, r4⟩ := tN n hn (by omega)
            obtain ⟨⟨a1, a2⟩, ⟨a3, a4⟩, _⟩ := g.ok n hn
            have eT : timeS T (mAt l n).1 = (atS T (mAt l n).1, 0) := by unfold timeS; rw [if_pos hT, if_pos ⟨a1, a2⟩, if_neg (by omega), if_pos ⟨r3, r4⟩]
            have ct := TimeOf_ok T (mAt l n).1
            rw [eT] at ct
            generalize mAt l n = z at *
            generalize atS T z.1 = A at *
            have w3 : IntKind.i64.wrap (A - z.2.1) = A - z.2.1 := w_i64 (by omega) (by omega)
            have w4 : IntKind.i64.wrap (-s) = -s := w_i64 (by omega) (by omega)
            generalize hD : A - z.2.1 = D at *
            simp -dsimp [c1, c1', i2, c2, i0, c3, hn', i7, m_ia hgn, m_l0 hgn]
            refine call_pure ct (by simp) rfl ?_
            simp -dsimp [i0, i2, m_ia hgn, m_l1 hgn, hD, w3, i1, r2, w4, r1]
            refine call_pure awake2_ok (by simp) rfl ?_
            simp -dsimp
end Go.Proofs.P3
