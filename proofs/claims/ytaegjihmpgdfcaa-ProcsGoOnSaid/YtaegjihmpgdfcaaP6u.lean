/- Procedures are right: both sides. -/
import Derived.Test.YtaegjihmpgdfcaaP6s
set_option linter.unusedVariables false
set_option linter.unusedSimpArgs false
set_option maxRecDepth 10000
set_option maxHeartbeats 8000000
namespace Go.Proofs.P6
open Go.Ex
theorem bl_irrefl : ∀ a : List UInt8, Op.bytesLess a a = false
  | [] => rfl
  | a :: x => by
    unfold Op.bytesLess
    simp [bl_irrefl x]
theorem bl_trans : ∀ a b c : List UInt8, Op.bytesLess a b = true → Op.bytesLess b c = true → Op.bytesLess a c = true
  | _, _, [], _, h => by simp [Op.bytesLess] at h
  | _, [], _ :: _, h, _ => by simp [Op.bytesLess] at h
  | [], _ :: _, _ :: _, _, _ => by simp [Op.bytesLess]
  | a :: x, b :: y, c :: z, h1, h2 => by
    simp only [Op.bytesLess, Bool.or_eq_true, decide_eq_true_eq, Bool.and_eq_true, beq_iff_eq] at h1 h2 ⊢
    rcases h1 with h1 | ⟨rfl, h1⟩
    · rcases h2 with h2 | ⟨rfl, h2⟩
      · exact .inl (by rw [UInt8.lt_iff_toNat_lt] at *; omega)
      · exact .inl h1
    · rcases h2 with h2 | ⟨rfl, h2⟩
      · exact .inl h2
      · exact .inr ⟨rfl, bl_trans x y z h1 h2⟩
theorem bl_total : ∀ a b : List UInt8, Op.bytesLess a b = false → a ≠ b → Op.bytesLess b a = true
  | [], [], _, h => absurd rfl h
  | a :: x, [], _, _ => rfl
  | [], b :: y, h, _ => by simp [Op.bytesLess] at h
  | a :: x, b :: y, h1, h2 => by
    simp only [Op.bytesLess, Bool.or_eq_false_iff, decide_eq_false_iff_not, Bool.and_eq_false_iff, Bool.or_eq_true, decide_eq_true_eq, Bool.and_eq_true, beq_iff_eq, beq_eq_false_iff_ne] at h1 ⊢
    obtain ⟨h1, h3⟩ := h1
    rw [UInt8.lt_iff_toNat_lt] at h1
    by_cases e : a = b
    · subst e
      refine .inr ⟨rfl, bl_total x y (by simpa using h3) fun e => h2 (by rw [e])⟩
    · left
      rw [UInt8.lt_iff_toNat_lt]
      have : a.toNat ≠ b.toNat := fun q => e (UInt8.toNat_inj.1 q)
      omega
def procsE1 (p : List Prc) (k : Nat) : Int := match p[k]? with
  | none => 0
  | some x => if procE x ≠ 0 then procE x else if before p (fun y => leS x.1 y.1) k then 8 else 0
def noStep (p : List Prc) (x : Prc) (s : Step) : Bool := (goB s.1 && decide (ixI (isLab s.2.2.1) x.2 < 0)) || (decide (s.1 = 6) && decide (prI p s.2.1 < 0))
def noProc (p : List Prc) (x : Prc) : Bool := x.2.any (noStep p x)
open Classical in
noncomputable def loopB (p : List Prc) (i : Nat) : Bool := decide (Tc (cl p) i i)
open Classical in
noncomputable def procsE (p : List Prc) : Int := if 50 < p.length then 2 else if fe (procsE1 p) p.length ≠ 0 then fe (procsE1 p) p.length else if p.any (noProc p) then 9 else if ∃ i, i < p.length ∧ loopB p i = true then 17 else 0
def procOk (x : Prc) : Prop := x.1.length < 2 ^ 62 ∧ ∀ s ∈ x.2, stepOk s
/-- What the first round shows. -/
structure Right1 (p : List Prc) : Prop where
  steps : ∀ x ∈ p, x.2.length ≤ 200 ∧ nm x.1 = true ∧ (∀ s ∈ x.2, stepE s = 0)
  order : ∀ (i j : Nat) x y, i < j → p[i]? = some x → p[j]? = some y → Op.bytesLess x.1 y.1 = true
theorem procE_zero {x : Prc} (h : procE x = 0) : x.2.length ≤ 200 ∧ nm x.1 = true ∧ (∀ s ∈ x.2, stepE s = 0) := by
  unfold procE at h
  split at h
  · cases h
  · rename_i h1
    split at h
    · cases h
    · refine ⟨by omega, by simpa using h1, fun s hs => ?_⟩
      obtain ⟨k, hk⟩ := List.getElem?_of_mem hs
      have := fe_zero h k (List.getElem?_eq_some_iff.1 hk).1
      unfold stE at this
      rw [hk] at this
      simp only at this
      split at this
      · rename_i q; exact absurd this q
      · rename_i q; simpa using q
theorem right1 {p : List Prc} (h : fe (procsE1 p) p.length = 0) : Right1 p := by
  have each : ∀ (k : Nat) x, p[k]? = some x → procE x = 0 ∧ before p (fun y => leS x.1 y.1) k = false := by
    intro k x hk
    have := fe_zero h k (List.getElem?_eq_some_iff.1 hk).1
    unfold procsE1 at this
    rw [hk] at this
    simp only at this
    split at this
    · rename_i q; exact absurd this q
    · rename_i q
      split at this
      · cases this
      · rename_i q'; exact ⟨by simpa using q, by simpa using q'⟩
  refine ⟨fun x hx => ?_, ?_⟩
  · obtain ⟨k, hk⟩ := List.getElem?_of_mem hx
    exact procE_zero (each k x hk).1
  · have next : ∀ (i : Nat) x y, p[i]? = some x → p[i + 1]? = some y → Op.bytesLess x.1 y.1 = true := by
      intro i x y hx hy
      have := (each _ _ hy).2
      simp only [before, hx, leS, Bool.or_eq_false_iff, beq_eq_false_iff_ne] at this
      exact bl_total _ _ this.1 this.2
    intro i j x y hij hx hy
    obtain ⟨d, rfl⟩ : ∃ d, j = i + 1 + d := ⟨j - (i + 1), by omega⟩
    clear hij
    induction d generalizing y with
    | zero => exact next i x y hx hy
    | succ d ih =>
      have hl := (List.getElem?_eq_some_iff.1 hy).1
      have hg : p[i + 1 + d]? = some p[i + 1 + d] := List.getElem?_eq_getElem (by omega)
      exact bl_trans _ _ _ (ih _ hg) (next (i + 1 + d) _ y hg hy)
theorem Right1.pr {p : List Prc} (h : Right1 p) {i : Nat} {x : Prc} (hx : p[i]? = some x) : prI p x.1 = i := by
  refine ixI_stop (fun j a hj ha => ?_) hx (by simp)
  have := h.order j i a x hj ha hx
  simp only [decide_eq_false_iff_not]
  intro e
  rw [e, bl_irrefl] at this
  cases this
theorem no_zero {p : List Prc} (h : p.any (noProc p) = false) : ∀ x ∈ p, ∀ s ∈ x.2, noStep p x s = false := by
  intro x hx s hs
  rw [List.any_eq_false] at h
  have := h x hx
  unfold noProc at this
  rw [Bool.not_eq_true, List.any_eq_false] at this
  simpa using this s hs
theorem no_res {p : List Prc} (h : p.any (noProc p) = false) : ∀ x ∈ p, ∀ s ∈ x.2, s.1 = 6 → 0 ≤ prI p s.2.1 := by
  intro x hx s hs h6
  have := no_zero h x hx s hs
  unfold noStep at this
  simp [h6] at this
  exact this.2
open Classical in
theorem procsE_of {p : List Prc} (h50 : p.length ≤ 50) : procsE p = if fe (procsE1 p) p.length ≠ 0 then fe (procsE1 p) p.length else if p.any (noProc p) then 9 else if ∃ i, i < p.length ∧ loopB p i = true then 17 else 0 := by
  unfold procsE
  rw [if_neg (by omega)]
theorem procsE_first {p : List Prc} (h50 : p.length ≤ 50) {k : Nat} {v : Int} (h0 : fe (procsE1 p) k = 0) (hk : k < p.length) (h : procsE1 p k = v) (hv : v ≠ 0) : procsE p = v := by
  have e := fe_stop h0 (by rw [h]; exact hv) hk
  rw [procsE_of h50, if_pos (by rw [e, h]; exact hv), e, h]
theorem procsE_none {p : List Prc} (h50 : p.length ≤ 50) (h0 : fe (procsE1 p) p.length = 0) (h : p.any (noProc p) = true) : procsE p = 9 := by
  rw [procsE_of h50, if_neg (by rw [h0]; simp), if_pos h]
theorem procsE_loop {p : List Prc} (h50 : p.length ≤ 50) (h0 : fe (procsE1 p) p.length = 0) (h1 : p.any (noProc p) = false) {i : Nat} (hi : i < p.length) (h : loopB p i = true) : procsE p = 17 := by
  rw [procsE_of h50, if_neg (by rw [h0]; simp), if_neg (by simp [h1]), if_pos ⟨i, hi, h⟩]
theorem procsE_ok {p : List Prc} (h50 : p.length ≤ 50) (h0 : fe (procsE1 p) p.length = 0) (h1 : p.any (noProc p) = false) (h : ∀ i, i < p.length → loopB p i = false) : procsE p = 0 := by
  rw [procsE_of h50, if_neg (by rw [h0]; simp), if_neg (by simp [h1]), if_neg]
  rintro ⟨i, hi, q⟩
  rw [h i hi] at q
  cases q
def PI2 (p : List Prc) (x : Prc) (k i j : Nat) (n7 : Nat) (t : St) : Prop := t.t 0 = .ro p.length (fl procCd p) ∧ t.t 40 = .ro p.length (fl procCd p) ∧ t.t 41 = .int .i64 p.length ∧ t.t 42 = .int .i64 i ∧ t.t 47 = .ro x.2.length (fl stepCd x.2) ∧ t.t 7 = .pt n7 0 0 ∧ n7 < t.nx ∧ t.h n7 = some ⟨0, 0, [.str x.1, .ro x.2.length (fl stepCd x.2)], none⟩ ∧
  Not' (noStep p x) x.2 j
theorem CheckProcs_ok (p : List Prc) (hok : ∀ x ∈ p, procOk x) : OkF Try.prog 19 [.ro p.length (fl procCd p)] (.int .i64 (procsE p), []) := by
  refine OkF.W0 hm h19 (of_decide_eq_true rfl) ?_
  unfold c19
  simp -dsimp
  refine condK_of ?_ ?_ <;> intro q <;> simp -dsimp
  · have : 50 < p.length := by simp at q; omega
    simp [procsE, this]
  have h50 : p.length ≤ 50 := by simp at q; omega
  refine for_lt p.length (fun k t => t.t 0 = .ro p.length (fl procCd p) ∧ t.t 14 = .ro p.length (fl procCd p) ∧ fe (procsE1 p) k = 0) rfl (by omega) (by simp -dsimp [fe]) (by simp -dsimp) (by simp -dsimp) (fun k t hk hI hi hn => ?_) (fun t hI hi hn => ?_)
  · obtain ⟨i0, i14, iu⟩ := hI
    have hg : p[k]? = some p[k] := List.getElem?_eq_getElem hk
    have hmem := List.getElem_mem hk
    generalize p[k] = x at hg hmem
    obtain ⟨z, hz⟩ := prev_get hg
    have hwj : 0 < k → IntKind.i64.wrap ((k : Int) - 1) = ((k - 1 : Nat) : Int) := fun h => wrap_pred h (by omega)
    have hch : procsE1 p k = if procE x ≠ 0 then procE x else if before p (fun y => leS x.1 y.1) k then 8 else 0 := by unfold procsE1; rw [hg]
    unfold k19_0
    simp -dsimp [i0, i14, hi, hn, proc_ia hg, proc_ld hg]
    refine call_int (checkProc_ok x.1 x.2 (hok x hmem).2) ?_
    have hpe : procE (x.1, x.2) = procE x := rfl
    rw [hpe]
    simp -dsimp
    refine condK_of ?_ ?_ <;> intro a1 <;> simp -dsimp
    · simp at a1
      rw [procsE_first h50 iu hk (by rw [hch, if_pos a1]) a1]
    simp at a1
    refine wantT_of ?_ ?_ <;> intro a2 <;> simp -dsimp [a2, i0, i14, hi, hn]
    · have hp : 0 < k := by simpa using a2
      simp -dsimp [hwj hp, proc_ia (hz hp), proc_l0 (hz hp)]
      refine condK_of ?_ ?_ <;> intro a3 <;> simp -dsimp [i0, i14, hi, hn]
      · rw [procsE_first h50 iu hk (v := 8) (by rw [hch, before_pos hp (hz hp)]; simp_all) (by decide)]
      · exact fe_step iu (by rw [hch, before_pos hp (hz hp)]; simp_all)
    · have hp : ¬ 0 < k := by simpa using a2
      exact fe_step iu (by rw [hch, before_zero hp]; simp_all)
  · obtain ⟨i0, i14, h0⟩ := hI
    have hR := right1 h0
    simp -dsimp [i0]
    refine for_lt p.length (fun k t => t.t 0 = .ro p.length (fl procCd p) ∧ t.t 40 = .ro p.length (fl procCd p) ∧ Not' (noProc p) p k) rfl (by omega) (by simp -dsimp [Not'.zero, i0]) (by simp -dsimp) (by simp -dsimp) (fun k t hk hI hi hn => ?_) (fun t hI hi hn => ?_)
    · obtain ⟨i0, i40, iu⟩ := hI
      have hg : p[k]? = some p[k] := List.getElem?_eq_getElem hk
      have hmem := List.getElem_mem hk
      generalize p[k] = x at hg hmem
      have hxl := (hR.steps x hmem).1
      unfold k19_2
      simp -dsimp [i0, i40, hi, hn, proc_ia hg, proc_ld hg]
      refine for_lt x.2.length (fun j s => PI2 p x k k j t.nx s) rfl (by omega) ⟨by simp -dsimp [i0], by simp -dsimp [i40], by simp -dsimp [hn], by simp -dsimp [hi], by simp -dsimp, by simp -dsimp, by simp -dsimp, by simp -dsimp, Not'.zero _ _⟩ (by simp -dsimp) (by simp -dsimp) (fun j s hj hJ hji hjn => ?_) (fun s hJ hji hjn => ?_)
      · obtain ⟨j0, j40, j41, j42, j47, j7, jc, jh, ju⟩ := hJ
        have hgj : x.2[j]? = some x.2[j] := List.getElem?_eq_getElem hj
        have hmj : x.2[j] ∈ x.2 := List.getElem_mem hj
        generalize x.2[j] = y at hgj hmj
        have hne : t.nx ≠ s.nx := by omega
        have bad : noStep p x y = true → procsE p = 9 := fun h => procsE_none h50 h0 (any_stop hg (any_stop hgj h))
        have good : noStep p x y = false → ∀ s' : St, s'.t 0 = s.t 0 → s'.t 40 = s.t 40 → s'.t 41 = s.t 41 → s'.t 42 = s.t 42 → s'.t 47 = s.t 47 → s'.t 7 = s.t 7 → s.nx ≤ s'.nx → s'.h t.nx = s.h t.nx → PI2 p x k k (j + 1) t.nx s' := fun h s' e0 e1 e2 e3 e4 e5 e6 e7 => ⟨by rw [e0]; exact j0, by rw [e1]; exact j40, by rw [e2]; exact j41, by rw [e3]; exact j42, by rw [e4]; exact j47, by rw [e5]; exact j7, by omega, by rw [e7]; exact jh, ju.succ hgj h⟩
        unfold k19_1
        simp -dsimp [j0, j40, j41, j42, j47, j7, jh, hji, hjn, hne, step_ia hgj, step_ld hgj, stepV]
        refine call_bool (goesTo_ok y) ?_
        simp -dsimp
        repeat' (first
          | (refine condK_of ?_ ?_ <;> intro q <;> simp -dsimp [q, j0, j40, j41, j42, j47, j7, jh, hji, hjn, hne])
          | (refine wantT_of ?_ ?_ <;> intro q <;> simp -dsimp [q, j0, j40, j41, j42, j47, j7, jh, hji, hjn, hne])
          | (refine wantF_of ?_ ?_ <;> intro q <;> simp -dsimp [q, j0, j40, j41, j42, j47, j7, jh, hji, hjn, hne])
          | (refine call_int (labelAt_ok x.2 _ (by omega)) ?_; simp -dsimp [j0, j40, j41, j42, j47, j7, jh, hji, hjn, hne])
          | (refine call_int (procAt_ok p _ (by omega)) ?_; simp -dsimp [j0, j40, j41, j42, j47, j7, jh, hji, hjn, hne]))
        all_goals first
          | (rw [bad (by simp_all [noStep])]; done)
          | (exact good (by simp_all [noStep]) _ (by simp -dsimp) (by simp -dsimp) (by simp -dsimp) (by simp -dsimp) (by simp -dsimp) (by simp -dsimp) (by simp -dsimp) (by simp -dsimp [hne]))
          | (refine ⟨?_, good (by simp_all [noStep]) _ (by simp -dsimp) (by simp -dsimp) (by simp -dsimp) (by simp -dsimp) (by simp -dsimp) (by simp -dsimp) (by simp -dsimp) (by simp -dsimp [hne])⟩; simp_all)
      · obtain ⟨j0, j40, j41, j42, j47, j7, jc, jh, ju⟩ := hJ
        simp -dsimp [j0, j40, j41, j42]
        exact iu.succ hg (any_none ju)
    · obtain ⟨i0, i40, iu⟩ := hI
      have h1 := any_none iu
      have hres := no_res h1
      simp -dsimp [i0]
      refine for_lt p.length (fun k t => t.t 0 = .ro p.length (fl procCd p) ∧ ∀ i, i < k → loopB p i = false) rfl (by omega) (by simp -dsimp [i0]) (by simp -dsimp) (by simp -dsimp) (fun k t hk hI hi hn => ?_) (fun t hI hi hn => ?_)
      · obtain ⟨i0, iu⟩ := hI
        obtain ⟨out, ⟨hol, hout⟩, hcalls⟩ := calls_ok p k hk h50 (fun x hx => (hR.steps x hx).1) hres
        unfold k19_3
        simp -dsimp [i0, hi, hn]
        refine call_one hcalls (okRes_of (by simp)) ?_
        simp -dsimp
        refine call_bool (contains_int hm h43 h97 out (by omega) _) ?_
        simp -dsimp
        refine condK_of ?_ ?_ <;> intro q2 <;> simp -dsimp [i0, hi, hn]
        · have : loopB p k = true := by
            unfold loopB
            simpa using (hout k).1 (by simpa using q2)
          rw [procsE_loop h50 h0 h1 hk this]
        · intro i hik
          by_cases e : i = k
          · subst e
            unfold loopB
            simp only [decide_eq_false_iff_not]
            intro h
            have := (hout i).2 h
            simp [this] at q2
          · exact iu i (by omega)
      · simp -dsimp
        rw [procsE_ok h50 h0 h1 hI.2]
end Go.Proofs.P6
