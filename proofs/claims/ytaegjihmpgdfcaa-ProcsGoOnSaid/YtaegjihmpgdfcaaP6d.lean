/- The reference's names and facts. -/
import Derived.Test.YtaegjihmpgdfcaaP6c
set_option linter.unusedVariables false
set_option linter.unusedSimpArgs false
set_option maxRecDepth 10000
set_option maxHeartbeats 4000000
namespace Go.Proofs.P6
open Go.Ex
def hdL (s : List UInt8) : Bool := match s with
  | [] => false
  | c :: _ => ltr c
theorem nm_eq (s : List UInt8) : nm s = (s.all nmC && decide (s.length ≤ 40) && hdL s) := rfl
theorem hdL_get {s : List UInt8} {c : UInt8} (h : s[0]? = some c) : hdL s = ltr c := by
  cases s with
  | nil => simp at h
  | cons a r => simp at h; subst h; rfl
theorem isName_ok (s : List UInt8) (hs : s.length < 2 ^ 62) : OkF Try.prog 60 [.str s] (.bool (nm s), []) := by
  have e62 : (2 : Nat) ^ 62 = 4611686018427387904 := by decide
  refine OkF.W0 hm h60 (of_decide_eq_true rfl) ?_
  unfold c60
  simp -dsimp
  refine loop_to 3 s.length (fun k t => t.t 3 = .int .i64 k ∧ t.t 0 = .str s ∧ Upto nmC s k ∧ (0 < k → hdL s = true)) (fun k t h => h.1) ⟨by simp -dsimp, by simp -dsimp, Upto.zero _ _, fun h => by omega⟩ (fun k t hk hI => ?_)
  obtain ⟨i3, i0, iu, ih⟩ := hI
  by_cases hlt : k < s.length
  · have hlt' : (k : Int) < (s.length : Int) := by omega
    have hg : s[k]? = some s[k] := List.getElem?_eq_getElem hlt
    have hw : IntKind.i64.wrap ((k : Int) + 1) = (k : Int) + 1 := IntWalk.i64_in _ (by omega)
    generalize s[k] = c at hg
    have good : nmC c = true → (ltr c = true ∨ 0 < k) → (k + 1 ≤ s.length) ∧ Upto nmC s (k + 1) ∧ (0 < k + 1 → hdL s = true) := fun h1 h2 => ⟨by omega, iu.succ hg h1, fun _ => by
      rcases h2 with h2 | h2
      · by_cases hk0 : 0 < k
        · exact ih hk0
        · have : k = 0 := by omega
          subst this
          rw [hdL_get hg]; exact h2
      · exact ih h2⟩
    have bad1 : nmC c = false → nm s = false := fun h => by rw [nm_eq, all_false hg h]; rfl
    have bad2 : k = 0 → ltr c = false → nm s = false := fun h1 h2 => by subst h1; rw [nm_eq, hdL_get hg, h2]; simp
    unfold l60_0
    simp -dsimp [i3, i0, hlt', hg, hw]
    repeat' (first
      | (refine condK_of ?_ ?_ <;> intro q <;> simp -dsimp [q, i0, i3, hw])
      | (refine wantT_of ?_ ?_ <;> intro q <;> simp -dsimp [q, i0, i3, hw])
      | (refine wantF_of ?_ ?_ <;> intro q <;> simp -dsimp [q, i0, i3, hw]))
    all_goals
      simp only [decide_eq_true_eq, decide_eq_false_iff_not, Bool.not_eq_eq_eq_not, Bool.not_true, Bool.not_false, Bool.or_eq_true, Bool.and_eq_true, Bool.or_eq_false_iff, Bool.and_eq_false_imp] at *
      first
      | (have h1 : nmC c = true := by (unfold nmC; simp; omega)
         have h2 : ltr c = true ∨ 0 < k := by (unfold ltr; simp; omega)
         obtain ⟨a, b, d⟩ := good h1 h2
         exact ⟨by omega, b, d (by omega)⟩)
      | exact bad1 (by (unfold nmC; simp; omega))
      | exact bad2 (by omega) (by (unfold ltr; simp; omega))
  · have hkl : k = s.length := by omega
    subst hkl
    unfold l60_0
    simp -dsimp [i3, i0]
    refine call_bool (within_ok _ _ _) ?_
    simp -dsimp
    rw [nm_eq, iu.all]
    by_cases h0 : 0 < s.length
    · rw [ih h0]
      rw [Bool.eq_iff_iff]
      simp
      omega
    · have : s = [] := List.eq_nil_of_length_eq_zero (by omega)
      subst this
      rfl
def spansR (l : List Span) : Int := if 200 < l.length then 2 else spansE l
theorem checkSpans_ok (l : List Span) : OkF Try.prog 124 [.ro l.length (fl spanCd l)] (.int .i64 (spansR l), []) := by
  refine OkF.W0 hm h124 (of_decide_eq_true rfl) ?_
  unfold c124
  by_cases h1 : 200 < l.length
  · have h1' : (200 < (l.length : Int)) := by omega
    simp -dsimp [h1', spansR, h1]
  have h1' : ¬ (200 < (l.length : Int)) := by omega
  have hfe : spansR l = fe (spE l) l.length := if_neg h1
  simp -dsimp [h1']
  refine loop_to 3 l.length (fun k t => t.t 3 = .int .i64 k ∧ t.t 0 = .ro l.length (fl spanCd l) ∧ fe (spE l) k = 0) (fun k t h => h.1) ⟨by simp -dsimp, by simp -dsimp, rfl⟩ (fun k t hk hI => ?_)
  obtain ⟨i3, i0, iu⟩ := hI
  by_cases hlt : k < l.length
  · have hlt' : (k : Int) < (l.length : Int) := by omega
    have hg : l[k]? = some l[k] := List.getElem?_eq_getElem hlt
    have hw : IntKind.i64.wrap ((k : Int) + 1) = (k : Int) + 1 := IntWalk.i64_in _ (by omega)
    generalize l[k] = y at hg
    obtain ⟨z, hz⟩ := prev_get hg
    have hwj : 0 < k → IntKind.i64.wrap ((k : Int) - 1) = ((k - 1 : Nat) : Int) := fun h => wrap_pred h (by omega)
    have hbp : ∀ p, 0 < k → before l p k = p z := fun p h => before_pos h (hz h)
    have bad : ∀ v, spE l k = v → v ≠ 0 → spansR l = v := fun v h1 h2 => by rw [hfe, fe_stop iu (by rw [h1]; exact h2) hlt, h1]
    unfold l124_0
    simp -dsimp [i3, i0, hlt', hw, span_ia hg, span_l0 hg, span_l1 hg]
    refine call_bool (moment_ok _) ?_
    simp -dsimp [i3, i0]
    refine wantF_of ?_ ?_ <;> intro a1 <;> simp -dsimp [a1, i3, i0, span_ia hg, span_l0 hg, span_l1 hg]
    · refine call_bool (moment_ok _) ?_
      simp -dsimp [i3, i0]
      refine condK_of ?_ ?_ <;> intro a2 <;> simp -dsimp [a2, i3, i0, span_ia hg, span_l0 hg, span_l1 hg]
      · rw [bad 1 (by unfold spE; rw [hg]; simp at a1 a2; simp [a1, a2]) (by decide)]
      · refine condK_of ?_ ?_ <;> intro a3 <;> simp -dsimp [a3, i3, i0]
        · rw [bad 13 (by unfold spE; rw [hg]; simp at a1 a2 a3; simp [a1, a2, a3]) (by decide)]
        · refine wantT_of ?_ ?_ <;> intro a4 <;> simp -dsimp [a4, i3, i0, hw, span_ia hg, span_l0 hg, span_l1 hg]
          · have hp : 0 < k := by simpa using a4
            simp -dsimp [hwj hp, span_ia (hz hp), span_l1 (hz hp)]
            refine condK_of ?_ ?_ <;> intro a5 <;> simp -dsimp [a5, i3, i0, hw]
            · rw [bad 8 (by unfold spE; rw [hg]; simp only [hbp _ hp]; simp at a1 a2 a3 a5; simp [a1, a2, a3, a5]) (by decide)]
            · exact ⟨by omega, fe_step iu (by unfold spE; rw [hg]; simp only [hbp _ hp]; simp at a1 a2 a3 a5; simp [a1, a2, a5]; omega)⟩
          · have hp : ¬ 0 < k := by simpa using a4
            exact ⟨by omega, fe_step iu (by unfold spE; rw [hg]; simp only [before_zero hp]; simp at a1 a2 a3; simp [a1, a2]; omega)⟩
    · rw [bad 1 (by unfold spE; rw [hg]; simp at a1; simp [a1]) (by decide)]
  · have hkl : k = l.length := by omega
    subst hkl
    unfold l124_0
    simp -dsimp [i3, i0, hfe, iu]
theorem factsRef_ok (l : List Fact) (hl : ∀ x ∈ l, x.1.length < 2 ^ 62) : OkF Try.prog 72 [.ro l.length (fl factCd l)] (.int .i64 (factsE l), []) := by
  refine OkF.W0 hm h72 (of_decide_eq_true rfl) ?_
  unfold c72
  by_cases h1 : 100 < l.length
  · have h1' : (100 < (l.length : Int)) := by omega
    simp -dsimp [h1', factsE, h1]
  have h1' : ¬ (100 < (l.length : Int)) := by omega
  have hfe : factsE l = fe (factE l) l.length := if_neg h1
  simp -dsimp [h1']
  refine loop_to 3 l.length (fun k t => t.t 3 = .int .i64 k ∧ t.t 0 = .ro l.length (fl factCd l) ∧ fe (factE l) k = 0) (fun k t h => h.1) ⟨by simp -dsimp, by simp -dsimp, rfl⟩ (fun k t hk hI => ?_)
  obtain ⟨i3, i0, iu⟩ := hI
  by_cases hlt : k < l.length
  · have hlt' : (k : Int) < (l.length : Int) := by omega
    have hg : l[k]? = some l[k] := List.getElem?_eq_getElem hlt
    have hw : IntKind.i64.wrap ((k : Int) + 1) = (k : Int) + 1 := IntWalk.i64_in _ (by omega)
    have hlen := hl l[k] (List.getElem_mem hlt)
    generalize l[k] = x at hg hlen
    obtain ⟨z, hz⟩ := prev_get hg
    have hwj : 0 < k → IntKind.i64.wrap ((k : Int) - 1) = ((k - 1 : Nat) : Int) := fun h => wrap_pred h (by omega)
    have hbp : ∀ p, 0 < k → before l p k = p z := fun p h => before_pos h (hz h)
    have bad : ∀ v, factE l k = v → v ≠ 0 → factsE l = v := fun v h1 h2 => by rw [hfe, fe_stop iu (by rw [h1]; exact h2) hlt, h1]
    unfold l72_0
    simp -dsimp [i3, i0, hlt', hw, fact_ia hg, fact_l0 hg, fact_l1 hg]
    refine call_bool (isName_ok _ hlen) ?_
    simp -dsimp
    refine condK_of ?_ ?_ <;> intro a1 <;> simp -dsimp [a1, i3, i0, fact_ia hg, fact_l0 hg, fact_l1 hg]
    · rw [bad 5 (by unfold factE; rw [hg]; simp at a1; simp [a1]) (by decide)]
    · refine call_int (checkSpans_ok _) ?_
      simp -dsimp
      refine condK_of ?_ ?_ <;> intro a2 <;> simp -dsimp [a2, i3, i0, fact_ia hg, fact_l0 hg, fact_l1 hg]
      · simp at a1 a2
        by_cases h2 : 200 < x.2.length
        · have e : spansR x.2 = 2 := if_pos h2
          rw [bad 2 (by unfold factE; rw [hg]; simp [a1, h2]) (by decide), e]
        · have e : spansR x.2 = spansE x.2 := if_neg h2
          rw [e] at a2 ⊢
          rw [bad (spansE x.2) (by unfold factE; rw [hg]; simp [a1, h2, a2]) a2]
      · simp at a1 a2
        have h2 : ¬ 200 < x.2.length := fun h2 => by
          have e : spansR x.2 = 2 := if_pos h2
          rw [e] at a2
          exact absurd a2 (by decide)
        have e : spansR x.2 = spansE x.2 := if_neg h2
        rw [e] at a2
        refine wantT_of ?_ ?_ <;> intro a4 <;> simp -dsimp [a4, i3, i0, hw, fact_ia hg, fact_l0 hg, fact_l1 hg]
        · have hp : 0 < k := by simpa using a4
          simp -dsimp [hwj hp, fact_ia (hz hp), fact_l0 (hz hp)]
          refine condK_of ?_ ?_ <;> intro a5 <;> simp -dsimp [a5, i3, i0, hw]
          · rw [bad 8 (by unfold factE; rw [hg]; simp only [hbp _ hp]; simp [a1, h2, a2]; simpa using a5) (by decide)]
          · exact ⟨by omega, fe_step iu (by unfold factE; rw [hg]; simp only [hbp _ hp]; simp [a1, h2, a2]; simpa using a5)⟩
        · have hp : ¬ 0 < k := by simpa using a4
          exact ⟨by omega, fe_step iu (by unfold factE; rw [hg]; simp only [before_zero hp]; simp [a1, h2, a2])⟩
  · have hkl : k = l.length := by omega
    subst hkl
    unfold l72_0
    simp -dsimp [i3, i0, hfe, iu]
end Go.Proofs.P6
