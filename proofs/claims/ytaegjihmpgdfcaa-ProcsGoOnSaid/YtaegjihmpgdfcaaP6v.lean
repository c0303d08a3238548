/- The reference's: procedures are right. -/
import Derived.Test.YtaegjihmpgdfcaaP6u
set_option linter.unusedVariables false
set_option linter.unusedSimpArgs false
set_option maxRecDepth 10000
set_option maxHeartbeats 8000000
namespace Go.Proofs.P6
open Go.Ex
def noStepR (p : List Prc) (x : Prc) (s : Step) : Bool := (decide (s.1 = 6) && decide (prI p s.2.1 < 0)) || (!decide (s.1 = 6) && !decide (s.2.2.1 = []) && decide (ixI (isLab s.2.2.1) x.2 < 0))
theorem nm_ne {s : List UInt8} (h : nm s = true) : s ≠ [] := by
  intro e
  subst e
  cases h
theorem noStep_eq {p : List Prc} {x : Prc} {s : Step} (h : stepE s = 0) (hs : s ∈ x.2) : noStepR p x s = noStep p x s := by
  have h8 : s.1 = 8 → decide (ixI (isLab s.2.2.1) x.2 < 0) = false := fun e => by
    rw [decide_eq_false_iff_not, ixI_neg, List.any_eq_false]
    intro q
    have := q s hs
    simp [isLab, e] at this
  obtain ⟨k, t, la, n, nt⟩ := s
  unfold stepE at h
  simp only at h h8
  split at h
  · cases h
  · rename_i h1
    split at h
    · cases h
    · rename_i h2
      split at h
      · cases h
      · split at h
        · cases h
        · split at h
          · cases h
          · rename_i h5
            have h5' : laB k = true → la ≠ [] := fun e => nm_ne (by simpa [e] using h5)
            unfold formB at h2
            simp only at h2
            rcases kinds8 k with rfl | rfl | rfl | rfl | rfl | rfl | rfl | rfl | ⟨_, _, _, _, _, _, _, _, h9⟩
            all_goals simp_all [noStepR, noStep, goB, laB]
def QI2 (p : List Prc) (x : Prc) (i j : Nat) (t : St) : Prop := t.t 7 = .int .i64 j ∧ t.t 0 = .ro p.length (fl procCd p) ∧ t.t 6 = .int .i64 i ∧ Not' (noStepR p x) x.2 j
theorem CheckProcsRef_ok (p : List Prc) (hok : ∀ x ∈ p, procOk x) : OkF Try.prog 20 [.ro p.length (fl procCd p)] (.int .i64 (procsE p), []) := by
  refine OkF.W0 hm h20 (of_decide_eq_true rfl) ?_
  unfold c20
  simp -dsimp
  refine condK_of ?_ ?_ <;> intro q <;> simp -dsimp
  · have : 50 < p.length := by simp at q; omega
    simp [procsE, this]
  have h50 : p.length ≤ 50 := by simp at q; omega
  refine loop_to 3 p.length (fun k t => t.t 3 = .int .i64 k ∧ t.t 0 = .ro p.length (fl procCd p) ∧ fe (procsE1 p) k = 0) (fun k t h => h.1) (by simp -dsimp [fe]) (fun k t hk hI => ?_)
  obtain ⟨i3, i0, iu⟩ := hI
  unfold l20_1
  by_cases hlt : k < p.length
  · have hlt' : (k : Int) < (p.length : Int) := by omega
    have hw : IntKind.i64.wrap ((k : Int) + 1) = (k : Int) + 1 := IntWalk.i64_in _ (by omega)
    have hg : p[k]? = some p[k] := List.getElem?_eq_getElem hlt
    have hmem := List.getElem_mem hlt
    generalize p[k] = x at hg hmem
    have hxo := hok x hmem
    obtain ⟨z, hz⟩ := prev_get hg
    have hwj : 0 < k → IntKind.i64.wrap ((k : Int) - 1) = ((k - 1 : Nat) : Int) := fun h => wrap_pred h (by omega)
    have hch : procsE1 p k = if procE x ≠ 0 then procE x else if before p (fun y => leS x.1 y.1) k then 8 else 0 := by unfold procsE1; rw [hg]
    have bad : ∀ v, procE x = v → v ≠ 0 → procsE p = v := fun v h h' => procsE_first h50 iu hlt (by rw [hch, h, if_pos h']) h'
    simp -dsimp [i3, i0, hlt', proc_ia hg, proc_l0 hg]
    refine call_bool (isName_ok _ hxo.1) ?_
    simp -dsimp
    refine condK_of ?_ ?_ <;> intro a1 <;> simp -dsimp [i3, i0, proc_ia hg, proc_l1 hg]
    · rw [bad 5 (by unfold procE; simp at a1; simp [a1]) (by decide)]
    refine condK_of ?_ ?_ <;> intro a2 <;> simp -dsimp [i3, i0, proc_ia hg, proc_l1 hg]
    · rw [bad 2 (by unfold procE; simp at a1 a2; simp [a1]; omega) (by decide)]
    have hxl : x.2.length ≤ 200 := by simp at a2; omega
    have hE : procE x = fe (stE x.2) x.2.length := by
      unfold procE
      simp at a1
      rw [if_neg (by simp [a1]), if_neg (by omega)]
    refine loop_to 4 x.2.length (fun j s => s.t 4 = .int .i64 j ∧ s.t 3 = .int .i64 k ∧ s.t 0 = .ro p.length (fl procCd p) ∧ fe (stE x.2) j = 0) (fun k t h => h.1) (by simp -dsimp [fe, i3, i0]) (fun j s hj hJ => ?_)
    obtain ⟨j4, j3, j0, ju⟩ := hJ
    unfold l20_0
    by_cases hjt : j < x.2.length
    · have hjt' : (j : Int) < (x.2.length : Int) := by omega
      have hwj : IntKind.i64.wrap ((j : Int) + 1) = (j : Int) + 1 := IntWalk.i64_in _ (by omega)
      have hgj : x.2[j]? = some x.2[j] := List.getElem?_eq_getElem hjt
      have hmj : x.2[j] ∈ x.2 := List.getElem_mem hjt
      generalize x.2[j] = y at hgj hmj
      simp -dsimp [j4, j3, j0, hjt', proc_ia hg, proc_l1 hg, proc_ld hg]
      refine call_int (checkStepRef_ok x.1 x.2 j y hgj (hxo.2 y hmj) (by omega)) ?_
      simp -dsimp
      refine condK_of ?_ ?_ <;> intro a3 <;> simp -dsimp [j4, j3, j0, hwj, hjt]
      · have a3' : stE x.2 j ≠ 0 := by simpa using a3
        rw [bad (stE x.2 j) (by rw [hE, fe_stop ju a3' hjt]) a3']
      · exact fe_step ju (by simpa using a3)
    · have hjl : j = x.2.length := by omega
      subst hjl
      simp -dsimp [j4, j3, j0, proc_ia hg, proc_l1 hg, proc_l0 hg]
      have hp0 : procE x = 0 := by rw [hE]; exact ju
      refine wantT_of ?_ ?_ <;> intro a4 <;> simp -dsimp [a4, j4, j3, j0, hw, hlt, proc_ia hg, proc_l0 hg]
      · have hp : 0 < k := by simpa using a4
        simp -dsimp [hwj hp, proc_ia (hz hp), proc_l0 (hz hp)]
        refine condK_of ?_ ?_ <;> intro a5 <;> simp -dsimp [j4, j3, j0, hw, hlt]
        · rw [procsE_first h50 iu hlt (v := 8) (by rw [hch, before_pos hp (hz hp)]; simp_all) (by decide)]
        · exact fe_step iu (by rw [hch, before_pos hp (hz hp)]; simp_all)
      · have hp : ¬ 0 < k := by simpa using a4
        exact fe_step iu (by rw [hch, before_zero hp]; simp_all)
  · have hkl : k = p.length := by omega
    subst hkl
    have hR := right1 iu
    have h0 := iu
    have heq : ∀ x ∈ p, x.2.any (noStepR p x) = noProc p x := fun x hx => by
      unfold noProc
      rw [Bool.eq_iff_iff, List.any_eq_true, List.any_eq_true]
      constructor
      · rintro ⟨s, h1, h2⟩
        exact ⟨s, h1, by rw [← noStep_eq ((hR.steps x hx).2.2 s h1) h1]; exact h2⟩
      · rintro ⟨s, h1, h2⟩
        exact ⟨s, h1, by rw [noStep_eq ((hR.steps x hx).2.2 s h1) h1]; exact h2⟩
    simp -dsimp [i3, i0]
    refine loop_to 6 p.length (fun k t => t.t 6 = .int .i64 k ∧ t.t 0 = .ro p.length (fl procCd p) ∧ Not' (noProc p) p k) (fun k t h => h.1) (by simp -dsimp [Not'.zero, i0]) (fun k t hk hI => ?_)
    obtain ⟨i6, i0, iu⟩ := hI
    unfold l20_3
    by_cases hlt : k < p.length
    · have hlt' : (k : Int) < (p.length : Int) := by omega
      have hw : IntKind.i64.wrap ((k : Int) + 1) = (k : Int) + 1 := IntWalk.i64_in _ (by omega)
      have hg : p[k]? = some p[k] := List.getElem?_eq_getElem hlt
      have hmem := List.getElem_mem hlt
      generalize p[k] = x at hg hmem
      have hxl := (hR.steps x hmem).1
      simp -dsimp [i6, i0, hlt', proc_ia hg]
      refine loop_to 7 x.2.length (fun j s => QI2 p x k j s) (fun k t h => h.1) ⟨by simp -dsimp, by simp -dsimp [i0], by simp -dsimp [i6], Not'.zero _ _⟩ (fun j s hj hJ => ?_)
      obtain ⟨j7, j0, j6, ju⟩ := hJ
      unfold l20_2
      by_cases hjt : j < x.2.length
      · have hjt' : (j : Int) < (x.2.length : Int) := by omega
        have hwj : IntKind.i64.wrap ((j : Int) + 1) = (j : Int) + 1 := IntWalk.i64_in _ (by omega)
        have hgj : x.2[j]? = some x.2[j] := List.getElem?_eq_getElem hjt
        have hmj : x.2[j] ∈ x.2 := List.getElem_mem hjt
        generalize x.2[j] = y at hgj hmj
        have bad : noStepR p x y = true → procsE p = 9 := fun h => procsE_none h50 h0 (any_stop hg (by rw [← heq x hmem]; exact any_stop hgj h))
        have good : noStepR p x y = false → ∀ s' : St, s'.t 7 = .int .i64 ((j : Int) + 1) → s'.t 0 = s.t 0 → s'.t 6 = s.t 6 → QI2 p x k (j + 1) s' := fun h s' e0 e1 e2 => ⟨by rw [e0]; simp, by rw [e1]; exact j0, by rw [e2]; exact j6, ju.succ hgj h⟩
        simp -dsimp [j7, j0, j6, hjt', proc_ia hg, proc_l1 hg, proc_ld hg, step_ia hgj, step_ld hgj, stepV]
        repeat' (first
          | (refine condK_of ?_ ?_ <;> intro q <;> simp -dsimp [q, j7, j0, j6, hwj, hjt, proc_ia hg, proc_ld hg, disj, idOf])
          | (refine wantT_of ?_ ?_ <;> intro q <;> simp -dsimp [q, j7, j0, j6, hwj, hjt, proc_ia hg, proc_ld hg, disj, idOf])
          | (refine wantF_of ?_ ?_ <;> intro q <;> simp -dsimp [q, j7, j0, j6, hwj, hjt, proc_ia hg, proc_ld hg, disj, idOf])
          | (refine call_int (labelOf_ok x.1 x.2 _ (by omega)) ?_; simp -dsimp [j7, j0, j6, hwj, hjt, proc_ia hg, proc_ld hg, disj, idOf])
          | (refine call_int (procOf_ok p _ (by omega)) ?_; simp -dsimp [j7, j0, j6, hwj, hjt, proc_ia hg, proc_ld hg, disj, idOf]))
        all_goals first
          | (rw [bad (by simp_all [noStepR])]; done)
          | (exact good (by simp_all [noStepR]) _ (by simp -dsimp) (by simp -dsimp) (by simp -dsimp))
      · have hjl : j = x.2.length := by omega
        subst hjl
        simp -dsimp [j7, j0, j6, hw, hlt, proc_ia hg, proc_l1 hg]
        exact iu.succ hg (by rw [← heq x hmem]; exact any_none ju)
    · have hkl : k = p.length := by omega
      subst hkl
      have h1 := any_none iu
      have hres := no_res h1
      simp -dsimp [i6, i0]
      refine loop_to 9 p.length (fun k t => t.t 9 = .int .i64 k ∧ t.t 0 = .ro p.length (fl procCd p) ∧ ∀ i, i < k → loopB p i = false) (fun k t h => h.1) (by simp -dsimp [i0]) (fun k t hk hI => ?_)
      obtain ⟨i9, i0, iu⟩ := hI
      unfold l20_4
      by_cases hlt : k < p.length
      · have hlt' : (k : Int) < (p.length : Int) := by omega
        have hw : IntKind.i64.wrap ((k : Int) + 1) = (k : Int) + 1 := IntWalk.i64_in _ (by omega)
        have hg : p[k]? = some p[k] := List.getElem?_eq_getElem hlt
        generalize p[k] = x at hg
        have hpr := hR.pr hg
        have hcl : OkF Try.prog 63 [.ro p.length (fl procCd p), .str x.1, .str x.1] (.bool (loopB p k), []) := by
          have := called_ok p x.1 x.1 (by omega) (by omega) h50 (fun x hx => (hR.steps x hx).1) hres
          rw [hpr] at this
          exact this
        simp -dsimp [i9, i0, hlt', proc_ia hg, proc_l0 hg]
        refine call_bool hcl ?_
        simp -dsimp
        refine condK_of ?_ ?_ <;> intro q2 <;> simp -dsimp [i9, i0, hw, hlt]
        · rw [procsE_loop h50 h0 h1 hlt q2]
        · intro i hik
          by_cases e : i = k
          · subst e; exact q2
          · exact iu i (by omega)
      · have hkl : k = p.length := by omega
        subst hkl
        simp -dsimp [i9, i0]
        rw [procsE_ok h50 h0 h1 iu]
end Go.Proofs.P6
