/- The reference's places; the law. -/
import Derived.Test.YtaegjihmpgdfcaaP6w
set_option linter.unusedVariables false
set_option linter.unusedSimpArgs false
set_option maxRecDepth 10000
set_option maxHeartbeats 16000000
namespace Go.Proofs.P6
open Go.Ex
theorem CheckPlacesRef_ok (p : List Prc) (s : List Place) (hok : ∀ x ∈ p, procOk x) (hl : p.length < 2 ^ 62) : OkF Try.prog 23 [.ro p.length (fl procCd p), .ro s.length (fl placeCd s)] (.int .i64 (placesE p s), []) := by
  refine OkF.W0 hm h23 (of_decide_eq_true rfl) ?_
  unfold c23
  simp -dsimp
  refine call_int (CheckProcsRef_ok p hok) ?_
  simp -dsimp
  refine condK_of ?_ ?_ <;> intro q <;> simp -dsimp
  · have : procsE p ≠ 0 := by simpa using q
    simp [placesE, this]
  have hz : procsE p = 0 := by simpa using q
  have hR := places_proc hz
  refine condK_of ?_ ?_ <;> intro q1 <;> simp -dsimp
  · have : 50 < s.length := by simp at q1; omega
    simp [placesE, hz, this]
  have h50 : s.length ≤ 50 := by simp at q1; omega
  have hE : placesE p s = fe (placeE p s) s.length := by unfold placesE; rw [if_neg (by simp [hz]), if_neg (by omega)]
  refine loop_to 6 s.length (fun k t => t.t 6 = .int .i64 k ∧ t.t 0 = .ro p.length (fl procCd p) ∧ t.t 1 = .ro s.length (fl placeCd s) ∧ fe (placeE p s) k = 0) (fun k t h => h.1) (by simp -dsimp [fe]) (fun k t hkl hI => ?_)
  obtain ⟨i6, i0, i1, iu⟩ := hI
  by_cases hk : k < s.length
  · have hlt' : (k : Int) < (s.length : Int) := by omega
    have hg : s[k]? = some s[k] := List.getElem?_eq_getElem hk
    generalize s[k] = x at hg
    obtain ⟨pn, st, un⟩ := x
    have hw2' : IntKind.i64.wrap ((k : Int) + 1) = (k : Int) + 1 := IntWalk.i64_in _ (by omega)
    have bad : ∀ v, placeE p s k = v → v ≠ 0 → placesE p s = v := fun v h1 h2 => by rw [hE, fe_stop iu (by rw [h1]; exact h2) hk, h1]
    have hw2 : IntKind.i64.wrap ((k : Int) + 1) = ((k + 1 : Nat) : Int) := by rw [IntWalk.i64_in _ (by omega)]; simp
    unfold l23_0
    simp -dsimp [i6, i0, i1, hk, hlt', place_ia hg, place_l0 hg, place_l1 hg, place_l2 hg, hk]
    refine call_int (procOf_ok p _ hl) ?_
    simp -dsimp
    refine condK_of ?_ ?_ <;> intro a1 <;> simp -dsimp [i6, i0, i1, hk, hlt', place_ia hg, place_l0 hg, place_l1 hg, place_l2 hg]
    · rw [bad 9 (placeE_neg hg (by simpa using a1)) (by decide)]
    have hp0 : 0 ≤ prI p pn := by simpa using a1
    obtain ⟨pr, hpr, _⟩ := prI_get hp0
    have hch := placeE_eq hg hpr hp0
    have hpc : ((prI p pn).toNat : Int) = prI p pn := by omega
    have hia : ∀ h K, iaddrK h (.ro p.length (fl procCd p)) (.int .i64 (prI p pn)) 2 K ⟨⟩ = K (.rp (fl procCd p) ((prI p pn).toNat * 2)) [] := fun h K => by
      have := proc_ia (h := h) (kk := .i64) (K := K) hpr
      rw [hpc] at this
      exact this
    simp -dsimp [hia, proc_l1 hpr, i6, i0, i1, hk, hlt', place_ia hg, place_l0 hg, place_l1 hg, place_l2 hg]
    refine call_bool (inBR_ok _ _ _) ?_
    simp -dsimp
    by_cases b1 : inB st 0 pr.2.length = true
    · obtain ⟨n, rfl⟩ : ∃ n : Nat, st = n := ⟨st.toNat, by unfold inB at b1; simp at b1; omega⟩
      have hnl : n ≤ pr.2.length := by unfold inB at b1; simp at b1; omega
      have hlen : pr.2.length ≤ 200 := (hR.steps pr (List.mem_of_getElem? hpr)).1
      have hw1 : IntKind.i64.wrap ((s.length : Int) - 1) = (s.length : Int) - 1 := IntWalk.i64_in _ (by omega)
      simp -dsimp [b1, i6, i0, i1, hk, hlt', place_ia hg, place_l0 hg, place_l1 hg, place_l2 hg]
      refine call_bool (inBR_ok _ _ _) ?_
      simp -dsimp [i6, i0, i1, hk, hlt', place_ia hg, place_l0 hg, place_l1 hg, place_l2 hg, hw1]
      refine condK_of ?_ ?_ <;> intro a2 <;> simp -dsimp [i6, i0, i1, hk, hlt', place_ia hg, place_l0 hg, place_l1 hg, place_l2 hg, hw1]
      · rw [bad 1 (by rw [hch]; simp at a2; simp [a2]) (by decide)]
      simp at a2
      have hu1 : -1 ≤ un := by unfold inB at a2; simp at a2; omega
      simp only [Int.toNat_natCast, b1, a2, Bool.not_true, Bool.or_self] at hch
      by_cases hL : k + 1 = s.length
      · have hL' : decide ((k : Int) = (s.length : Int) - 1) = true := by simp; omega
        rcases Nat.lt_or_ge n pr.2.length with hlt | hge
        · have hgy : pr.2[n]? = some pr.2[n] := List.getElem?_eq_getElem hlt
          generalize pr.2[n] = y at hgy
          have hne : ¬ (n : Int) = (pr.2.length : Int) := by omega
          have hlt2 : (n : Int) < (pr.2.length : Int) := by omega
          try simp -dsimp [i6, i0, i1, hk, hlt', place_ia hg, place_l0 hg, place_l1 hg, place_l2 hg, hw1, hL', hne, hlt2, step_ia hgy, step_l0 hgy]
          repeat' (first
            | (refine condK_of ?_ ?_ <;> intro q <;> simp -dsimp [q, i6, i0, i1, hk, hlt', place_ia hg, place_l0 hg, place_l1 hg, place_l2 hg, hw1, hL', hne, hlt2, step_ia hgy, step_l0 hgy, hw2])
            | (refine wantT_of ?_ ?_ <;> intro q <;> simp -dsimp [q, i6, i0, i1, hk, hlt', place_ia hg, place_l0 hg, place_l1 hg, place_l2 hg, hw1, hL', hne, hlt2, step_ia hgy, step_l0 hgy, hw2])
            | (refine wantF_of ?_ ?_ <;> intro q <;> simp -dsimp [q, i6, i0, i1, hk, hlt', place_ia hg, place_l0 hg, place_l1 hg, place_l2 hg, hw1, hL', hne, hlt2, step_ia hgy, step_l0 hgy, hw2]))
          all_goals first
            | (rw [bad 11 (by rw [hch]; simp_all [kindAt, waitsB]; try omega) (by decide)]; done)
            | (refine fe_step iu ?_; rw [hch]; simp_all [kindAt, waitsB]; try omega)
        · have hnl : n = pr.2.length := by omega
          subst hnl
          have hgy : pr.2[pr.2.length]? = none := List.getElem?_eq_none (by omega)
          try simp -dsimp [i6, i0, i1, hk, hlt', place_ia hg, place_l0 hg, place_l1 hg, place_l2 hg, hw1, hL']
          repeat' (first
            | (refine condK_of ?_ ?_ <;> intro q <;> simp -dsimp [q, i6, i0, i1, hk, hlt', place_ia hg, place_l0 hg, place_l1 hg, place_l2 hg, hw1, hL', hw2])
            | (refine wantT_of ?_ ?_ <;> intro q <;> simp -dsimp [q, i6, i0, i1, hk, hlt', place_ia hg, place_l0 hg, place_l1 hg, place_l2 hg, hw1, hL', hw2])
            | (refine wantF_of ?_ ?_ <;> intro q <;> simp -dsimp [q, i6, i0, i1, hk, hlt', place_ia hg, place_l0 hg, place_l1 hg, place_l2 hg, hw1, hL', hw2]))
          all_goals first
            | (rw [bad 11 (by rw [hch]; simp_all [kindAt, waitsB]; try omega) (by decide)]; done)
            | (refine fe_step iu ?_; rw [hch]; simp_all [kindAt, waitsB]; try omega)
      · have hL' : ¬ (k : Int) = (s.length : Int) - 1 := by omega
        have hgz : s[k + 1]? = some (s[k + 1]'(by omega)) := List.getElem?_eq_getElem (by omega)
        generalize s[k + 1]'(by omega) = z at hgz
        have hzia : ∀ h K, iaddrK h (.ro s.length (fl placeCd s)) (.int .i64 ((k : Int) + 1)) 3 K ⟨⟩ = K (.rp (fl placeCd s) ((k + 1) * 3)) [] := fun h K => by
          have := place_ia (h := h) (kk := .i64) (K := K) hgz
          simpa using this
        have hch' : placeE p s k = if 0 ≤ un then 11 else if !(decide (0 < n) && kindAt pr.2 (n - 1) (fun y => decide (y.1 = 6) && nextIs s k y.2.1)) then 11 else 0 := by
          rw [hch]; simp [hL]
        clear hch
        have hch := hch'
        rcases Nat.lt_or_ge n pr.2.length with hlt | hge
        · have hgy : pr.2[n]? = some pr.2[n] := List.getElem?_eq_getElem hlt
          generalize pr.2[n] = y0 at hgy
          have hlt2 : (n : Int) < (pr.2.length : Int) := by omega
          by_cases h0 : n = 0
          · have hd0 : decide (n = 0) = true := by simp [h0]
            repeat' (first
              | (refine condK_of ?_ ?_ <;> intro q <;> simp -dsimp [q, i6, i0, i1, hk, hlt', place_ia hg, place_l0 hg, place_l1 hg, place_l2 hg, hw1, hL', hw2, hd0, hlt2, step_ia hgy, step_l0 hgy])
              | (refine wantT_of ?_ ?_ <;> intro q <;> simp -dsimp [q, i6, i0, i1, hk, hlt', place_ia hg, place_l0 hg, place_l1 hg, place_l2 hg, hw1, hL', hw2, hd0, hlt2, step_ia hgy, step_l0 hgy])
              | (refine wantF_of ?_ ?_ <;> intro q <;> simp -dsimp [q, i6, i0, i1, hk, hlt', place_ia hg, place_l0 hg, place_l1 hg, place_l2 hg, hw1, hL', hw2, hd0, hlt2, step_ia hgy, step_l0 hgy]))
            all_goals first
              | (rw [bad 11 (by rw [hch]; simp_all [kindAt, waitsB, nextIs]; try omega) (by decide)]; done)
              | (refine fe_step iu ?_; rw [hch]; simp_all [kindAt, waitsB, nextIs]; try omega)
              | (exfalso; simp_all; done)
              | (exfalso; simp at q; omega)
          · have hd0 : decide (n = 0) = false := by simp [h0]
            have hgp : pr.2[n - 1]? = some (pr.2[n - 1]'(by omega)) := List.getElem?_eq_getElem (by omega)
            generalize pr.2[n - 1]'(by omega) = y at hgp
            have hwn : IntKind.i64.wrap ((n : Int) - 1) = ((n - 1 : Nat) : Int) := wrap_pred (by omega) (by omega)
            have hn1 : 0 < n := by omega
            repeat' (first
              | (refine condK_of ?_ ?_ <;> intro q <;> simp -dsimp [q, i6, i0, i1, hk, hlt', place_ia hg, place_l0 hg, place_l1 hg, place_l2 hg, hw1, hL', hw2, hd0, hlt2, step_ia hgy, step_l0 hgy, hwn, step_ia hgp, step_l0 hgp, step_l1 hgp, hzia, place_l0 hgz])
              | (refine wantT_of ?_ ?_ <;> intro q <;> simp -dsimp [q, i6, i0, i1, hk, hlt', place_ia hg, place_l0 hg, place_l1 hg, place_l2 hg, hw1, hL', hw2, hd0, hlt2, step_ia hgy, step_l0 hgy, hwn, step_ia hgp, step_l0 hgp, step_l1 hgp, hzia, place_l0 hgz])
              | (refine wantF_of ?_ ?_ <;> intro q <;> simp -dsimp [q, i6, i0, i1, hk, hlt', place_ia hg, place_l0 hg, place_l1 hg, place_l2 hg, hw1, hL', hw2, hd0, hlt2, step_ia hgy, step_l0 hgy, hwn, step_ia hgp, step_l0 hgp, step_l1 hgp, hzia, place_l0 hgz]))
            all_goals first
              | (rw [bad 11 (by rw [hch]; simp_all [kindAt, waitsB, nextIs]; try omega) (by decide)]; done)
              | (refine fe_step iu ?_; rw [hch]; simp_all [kindAt, waitsB, nextIs]; try omega)
              | (exfalso; simp_all; done)
              | (exfalso; simp at q; omega)
        · have hlt2 : ¬ (n : Int) < (pr.2.length : Int) := by omega
          by_cases h0 : n = 0
          · have hd0 : decide (n = 0) = true := by simp [h0]
            repeat' (first
              | (refine condK_of ?_ ?_ <;> intro q <;> simp -dsimp [q, i6, i0, i1, hk, hlt', place_ia hg, place_l0 hg, place_l1 hg, place_l2 hg, hw1, hL', hw2, hd0, hlt2])
              | (refine wantT_of ?_ ?_ <;> intro q <;> simp -dsimp [q, i6, i0, i1, hk, hlt', place_ia hg, place_l0 hg, place_l1 hg, place_l2 hg, hw1, hL', hw2, hd0, hlt2])
              | (refine wantF_of ?_ ?_ <;> intro q <;> simp -dsimp [q, i6, i0, i1, hk, hlt', place_ia hg, place_l0 hg, place_l1 hg, place_l2 hg, hw1, hL', hw2, hd0, hlt2]))
            all_goals first
              | (rw [bad 11 (by rw [hch]; simp_all [kindAt, waitsB, nextIs]; try omega) (by decide)]; done)
              | (refine fe_step iu ?_; rw [hch]; simp_all [kindAt, waitsB, nextIs]; try omega)
              | (exfalso; simp_all; done)
              | (exfalso; simp at q; omega)
          · have hd0 : decide (n = 0) = false := by simp [h0]
            have hgp : pr.2[n - 1]? = some (pr.2[n - 1]'(by omega)) := List.getElem?_eq_getElem (by omega)
            generalize pr.2[n - 1]'(by omega) = y at hgp
            have hwn : IntKind.i64.wrap ((n : Int) - 1) = ((n - 1 : Nat) : Int) := wrap_pred (by omega) (by omega)
            have hn1 : 0 < n := by omega
            repeat' (first
              | (refine condK_of ?_ ?_ <;> intro q <;> simp -dsimp [q, i6, i0, i1, hk, hlt', place_ia hg, place_l0 hg, place_l1 hg, place_l2 hg, hw1, hL', hw2, hd0, hlt2, hwn, step_ia hgp, step_l0 hgp, step_l1 hgp, hzia, place_l0 hgz])
              | (refine wantT_of ?_ ?_ <;> intro q <;> simp -dsimp [q, i6, i0, i1, hk, hlt', place_ia hg, place_l0 hg, place_l1 hg, place_l2 hg, hw1, hL', hw2, hd0, hlt2, hwn, step_ia hgp, step_l0 hgp, step_l1 hgp, hzia, place_l0 hgz])
              | (refine wantF_of ?_ ?_ <;> intro q <;> simp -dsimp [q, i6, i0, i1, hk, hlt', place_ia hg, place_l0 hg, place_l1 hg, place_l2 hg, hw1, hL', hw2, hd0, hlt2, hwn, step_ia hgp, step_l0 hgp, step_l1 hgp, hzia, place_l0 hgz]))
            all_goals first
              | (rw [bad 11 (by rw [hch]; simp_all [kindAt, waitsB, nextIs]; try omega) (by decide)]; done)
              | (refine fe_step iu ?_; rw [hch]; simp_all [kindAt, waitsB, nextIs]; try omega)
              | (exfalso; simp_all; done)
              | (exfalso; simp at q; omega)
    · have b1' : inB st 0 pr.2.length = false := by simpa using b1
      simp -dsimp [b1']
      rw [bad 1 (by rw [hch]; simp [b1']) (by decide)]
  · have hkl : k = s.length := by omega
    subst hkl
    unfold l23_0
    simp -dsimp [i6, i0, i1, hE, iu]
end Go.Proofs.P6
