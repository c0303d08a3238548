/- Is, and why both ways to say it are one. -/
import Derived.Test.YtaegjihmpgdfcaaP6e
set_option linter.unusedVariables false
set_option linter.unusedSimpArgs false
set_option maxRecDepth 10000
set_option maxHeartbeats 4000000
namespace Go.Proofs.P6
open Go.Ex
theorem spE_zero {l : List Span} {k : Nat} {a : Span} (h : spE l k = 0) (hg : l[k]? = some a) : a.1 < a.2 ∧ ∀ z, 0 < k → l[k - 1]? = some z → z.2 ≤ a.1 := by
  unfold spE at h
  rw [hg] at h
  simp only at h
  split at h
  · cases h
  · split at h
    · cases h
    · split at h
      · cases h
      · rename_i h2 h3
        refine ⟨by omega, fun z hp hz => ?_⟩
        rw [before_pos hp hz] at h3
        simpa using h3
theorem since_in {l : List Span} (h : spansE l = 0) (n : Int) : ((since l n).2 && decide ((since l n).1 = n)) = inSp l n := by
  have hz : ∀ (k : Nat) a, l[k]? = some a → a.1 < a.2 ∧ ∀ z, 0 < k → l[k - 1]? = some z → z.2 ≤ a.1 := fun k a hg => spE_zero (fe_zero h k (List.getElem?_eq_some_iff.1 hg).1) hg
  cases hf : l.find? (fun s => decide (n < s.2)) with
  | none =>
    have e1 : since l n = (0, false) := by unfold since; rw [hf]
    rw [e1]
    rw [List.find?_eq_none] at hf
    symm
    simp only [inSp, Bool.false_and, List.any_eq_false]
    intro a ha
    have := hf a ha
    simp at this ⊢
    omega
  | some s =>
    have e1 : since l n = (max n s.1, true) := by unfold since; rw [hf]
    rw [e1]
    rw [List.find?_eq_some_iff_getElem] at hf
    obtain ⟨h1, k, hk, hks, hlt⟩ := hf
    simp at h1
    by_cases hc : s.1 ≤ n
    · have : max n s.1 = n := by omega
      simp only [this, decide_true, Bool.and_true]
      symm
      exact any_stop (List.getElem?_eq_getElem hk) (by rw [hks]; simp; omega)
    · have hne : ¬ max n s.1 = n := by omega
      simp only [hne, decide_false, Bool.and_false]
      symm
      have up : ∀ (j : Nat) a, l[k + j]? = some a → n < a.1 := by
        intro j
        induction j with
        | zero => intro a ha; rw [Nat.add_zero, List.getElem?_eq_getElem hk, hks] at ha; injection ha with ha; subst ha; omega
        | succ j ih =>
          intro a ha
          have hl := (List.getElem?_eq_some_iff.1 ha).1
          have hb : l[k + j]? = some l[k + j] := List.getElem?_eq_getElem (by omega)
          have q1 := (hz _ _ ha).2 l[k + j] (by omega) (by rw [← hb]; congr 1)
          have q2 := (hz _ _ hb).1
          have q3 := ih _ hb
          omega
      simp only [inSp, List.any_eq_false]
      intro a ha
      obtain ⟨i, hi⟩ := List.getElem?_of_mem ha
      have hil := (List.getElem?_eq_some_iff.1 hi).1
      have hia := (List.getElem?_eq_some_iff.1 hi).2
      simp
      by_cases hik : i < k
      · have := hlt i hik
        rw [hia] at this
        simp at this
        omega
      · have := up (i - k) a (by rw [show k + (i - k) = i by omega]; exact hi)
        omega
theorem facts_small {l : List Fact} (h : factsE l = 0) : l.length ≤ 100 ∧ ∀ x ∈ l, x.2.length ≤ 200 ∧ spansE x.2 = 0 := by
  unfold factsE at h
  split at h
  · cases h
  · refine ⟨by omega, fun x hx => ?_⟩
    obtain ⟨k, hk⟩ := List.getElem?_of_mem hx
    have := fe_zero h k (List.getElem?_eq_some_iff.1 hk).1
    unfold factE at this
    rw [hk] at this
    simp only at this
    split at this
    · cases this
    · split at this
      · cases this
      · split at this
        · rename_i q; exact absurd this q
        · rename_i q1 q2; exact ⟨by omega, by simpa using q2⟩
theorem spansOf_small {l : List Fact} (h : factsE l = 0) (s : List UInt8) : (spansOf l s).length ≤ 200 ∧ spansE (spansOf l s) = 0 := by
  unfold spansOf
  split
  · rename_i x hx
    exact (facts_small h).2 x (List.mem_of_find?_eq_some hx)
  · exact ⟨by simp, rfl⟩
/-- Is. -/
def isR (l : List Fact) (s : List UInt8) (n : Int) : Bool × Int := if factsE l ≠ 0 then (false, factsE l) else if !nm s then (false, 5) else if !momB n then (false, 1) else (isF l s n, 0)
theorem Is_ok (l : List Fact) (s : List UInt8) (n : Int) : OkF Try.prog 66 [.ro l.length (fl factCd l), .str s, .int .i64 n] (.tup [.bool (isR l s n).1, .int .i64 (isR l s n).2], []) := by
  refine OkF.W0 hm h66 (of_decide_eq_true rfl) ?_
  unfold c66
  simp -dsimp
  refine call_int (facts_ok l) ?_
  simp -dsimp
  refine condK_of ?_ ?_ <;> intro q <;> simp -dsimp [q]
  · have : factsE l ≠ 0 := by simpa using q
    simp [isR, this]
  have hz : factsE l = 0 := by simpa using q
  refine call_bool (name_ok _) ?_
  simp -dsimp
  refine condK_of ?_ ?_ <;> intro q1 <;> simp -dsimp [q1]
  · simp at q1; simp [isR, hz, q1]
  refine call_bool (inM_ok _) ?_
  simp -dsimp
  refine condK_of ?_ ?_ <;> intro q2 <;> simp -dsimp [q2]
  · simp at q1 q2; simp [isR, hz, q1, q2]
  have h1 := (facts_small hz).1
  have h2 := (spansOf_small hz s).1
  refine call_bool (is_ok l s n (by omega) (by omega)) ?_
  simp -dsimp
  simp at q1 q2; simp [isR, hz, q1, q2]
end Go.Proofs.P6
