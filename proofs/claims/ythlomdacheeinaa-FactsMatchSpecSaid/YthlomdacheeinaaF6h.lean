/- Changes. -/
import Derived.Test.YthlomdacheeinaaF6g
set_option linter.unusedVariables false
set_option linter.unusedSimpArgs false
set_option maxRecDepth 10000
set_option maxHeartbeats 4000000
namespace Go.Proofs.C6
open Go.Ex
abbrev Change := Int × Int × Entry × Int × List UInt8 × Int
def chCd : Cd Change := .pair (.int .i64) (.pair (.int .i64) (.pair entCd (.pair (.int .i64) (.pair .str (.int .i64)))))
def chV (x : Change) : List V := [.int .i64 x.1, .int .i64 x.2.1, .int .i64 x.2.2.1.1, .int .i64 x.2.2.1.2.1, .str x.2.2.1.2.2.1, .str x.2.2.1.2.2.2.1, .str x.2.2.1.2.2.2.2.1, .bool x.2.2.1.2.2.2.2.2, .int .i64 x.2.2.2.1, .str x.2.2.2.2.1, .int .i64 x.2.2.2.2.2]
theorem ch_cells (x : Change) : chCd.cells x = chV x := rfl
def chOk (x : Change) : Prop := entOk x.2.2.1 ∧ x.2.2.2.2.1.length < 2 ^ 62
def zeroB (e : Entry) : Bool := decide (e.1 = 0) && (decide (e.2.1 = 0) && (decide (e.2.2.1 = []) && (decide (e.2.2.2.1 = []) && (decide (e.2.2.2.2.1 = []) && !e.2.2.2.2.2))))
def fldB (k : Int) (e : Entry) (id : Int) (g : List UInt8) (by' : Int) : Bool := ((decide (k = 1) || zeroB e) && (decide (k = 2) || decide (k = 3) || decide (id = 0))) && (decide (k = 4) || decide (k = 5) || decide (k = 6) || decide (g = [])) && (decide (k = 3) || decide (k = 4) || decide (by' = 0))
def chE (x : Change) : Int := if !inB x.1 0 1000000000000 then 1 else if !inB x.2.1 1 6 then 4 else if !fldB x.2.1 x.2.2.1 x.2.2.2.1 x.2.2.2.2.1 x.2.2.2.2.2 then 3 else
  if x.2.1 = 1 then entE x.2.2.1 else if (x.2.1 = 2 ∨ x.2.1 = 3) ∧ inB x.2.2.2.1 1 1000000000000 = false then 1 else if x.2.1 = 4 ∧ (¬ x.2.2.2.2.1 = [] ∧ nm x.2.2.2.2.1 = false) then 5 else
  if (x.2.1 = 5 ∨ x.2.1 = 6) ∧ nm x.2.2.2.2.1 = false then 5 else if !inB x.2.2.2.2.2 (-1000000000) 1000000000 then 1 else 0
theorem range_ok (n lo hi : Int) : OkF Try.prog 47 [.int .i64 n, .int .i64 lo, .int .i64 hi] (.int .i64 (if inB n lo hi = false then 1 else 0), []) := by
  refine OkF.W0 hm h47 (of_decide_eq_true rfl) ?_
  unfold c47
  simp -dsimp
  refine call_bool (inB_ok _ _ _) ?_
  simp -dsimp
  refine condK_of ?_ ?_ <;> intro q <;> simp -dsimp [q] <;> simp_all
theorem shiftB_ok (n : Int) : OkF Try.prog 61 [.int .i64 n] (.bool (inB n (-1000000000) 1000000000), []) := by
  refine OkF.W0 hm h61 (of_decide_eq_true rfl) ?_
  unfold c61
  simp -dsimp
  refine call_bool (inBR_ok _ _ _) ?_
  simp -dsimp
theorem kinds (k : Int) : k = 1 ∨ k = 2 ∨ k = 3 ∨ k = 4 ∨ k = 5 ∨ k = 6 ∨ (¬ k = 1 ∧ ¬ k = 2 ∧ ¬ k = 3 ∧ ¬ k = 4 ∧ ¬ k = 5 ∧ ¬ k = 6 ∧ inB k 1 6 = false) := by
  by_cases h1 : k = 1
  · exact .inl h1
  by_cases h2 : k = 2
  · exact .inr (.inl h2)
  by_cases h3 : k = 3
  · exact .inr (.inr (.inl h3))
  by_cases h4 : k = 4
  · exact .inr (.inr (.inr (.inl h4)))
  by_cases h5 : k = 5
  · exact .inr (.inr (.inr (.inr (.inl h5))))
  by_cases h6 : k = 6
  · exact .inr (.inr (.inr (.inr (.inr (.inl h6)))))
  refine .inr (.inr (.inr (.inr (.inr (.inr ⟨h1, h2, h3, h4, h5, h6, ?_⟩)))))
  unfold inB
  simp
  omega
theorem in1 : inB 1 1 6 = true := rfl
theorem in2 : inB 2 1 6 = true := rfl
theorem in3 : inB 3 1 6 = true := rfl
theorem in4 : inB 4 1 6 = true := rfl
theorem in5 : inB 5 1 6 = true := rfl
theorem in6 : inB 6 1 6 = true := rfl
theorem fields_ok (x : Change) : OkF Try.prog 59 [.agg (chV x)] (.bool (fldB x.2.1 x.2.2.1 x.2.2.2.1 x.2.2.2.2.1 x.2.2.2.2.2), []) := by
  obtain ⟨at', k, ⟨eid, eat, ec, eg, ei, en⟩, id, g, by'⟩ := x
  refine OkF.W0 hm h59 (of_decide_eq_true rfl) ?_
  unfold c59
  simp only
  rcases kinds k with rfl | rfl | rfl | rfl | rfl | rfl | ⟨h1, h2, h3, h4, h5, h6, h7⟩
  all_goals
    simp -dsimp [chV, seqA, eqCells, tagOf, fillS, fldB, *]
    repeat' (first
      | (refine condK_of ?_ ?_ <;> intro q <;> simp -dsimp [*, seqA, eqCells, tagOf, fillS])
      | (refine wantF_of ?_ ?_ <;> intro q <;> simp -dsimp [*, seqA, eqCells, tagOf, fillS])
      | (refine wantT_of ?_ ?_ <;> intro q <;> simp -dsimp [*, seqA, eqCells, tagOf, fillS]))
  all_goals (simp_all [fldB, zeroB])
theorem checkChange_ok (x : Change) (hx : chOk x) : OkF Try.prog 33 [.agg (chV x)] (.int .i64 (chE x), []) := by
  obtain ⟨at', k, ⟨eid, eat, ec, eg, ei, en⟩, id, g, by'⟩ := x
  obtain ⟨he, hg⟩ := hx
  refine OkF.W0 hm h33 (of_decide_eq_true rfl) ?_
  unfold c33
  simp -dsimp [chV]
  refine call_bool (inB_ok _ _ _) ?_
  simp -dsimp
  refine condK_of ?_ ?_ <;> intro q <;> simp -dsimp [*]
  · simp_all [chE]
  rcases kinds k with rfl | rfl | rfl | rfl | rfl | rfl | ⟨h1, h2, h3, h4, h5, h6, h7⟩
  all_goals
    simp -dsimp [seqA, eqCells, tagOf, fillS, disj, idOf, *]
    repeat' (first
      | (refine condK_of ?_ ?_ <;> intro q <;> simp -dsimp [*, seqA, eqCells, tagOf, fillS, disj, idOf])
      | (refine wantF_of ?_ ?_ <;> intro q <;> simp -dsimp [*, seqA, eqCells, tagOf, fillS, disj, idOf])
      | (refine wantT_of ?_ ?_ <;> intro q <;> simp -dsimp [*, seqA, eqCells, tagOf, fillS, disj, idOf])
      | (refine call_int (checkEntry_ok (eid, eat, ec, eg, ei, en) he) ?_; simp -dsimp)
      | (refine call_bool (inB_ok _ _ _) ?_; simp -dsimp)
      | (refine call_bool (name_ok _) ?_; simp -dsimp)
      | (refine call_int (range_ok _ _ _) ?_; simp -dsimp))
  all_goals (simp_all [chE, fldB, zeroB, in1, in2, in3, in4, in5, in6] <;> (intros; simp_all))
theorem checkChangeRef_ok (x : Change) (hx : chOk x) : OkF Try.prog 34 [.agg (chV x)] (.int .i64 (chE x), []) := by
  obtain ⟨at', k, ⟨eid, eat, ec, eg, ei, en⟩, id, g, by'⟩ := x
  obtain ⟨he, hg⟩ := hx
  have hf := fields_ok (at', k, ⟨eid, eat, ec, eg, ei, en⟩, id, g, by')
  simp only [chV] at hf hg he
  refine OkF.W0 hm h34 (of_decide_eq_true rfl) ?_
  unfold c34
  simp -dsimp [chV]
  refine call_bool (moment_ok _) ?_
  simp -dsimp
  refine condK_of ?_ ?_ <;> intro q <;> simp -dsimp [*]
  · simp_all [chE, mom_eq]
  refine call_bool (inBR_ok _ _ _) ?_
  simp -dsimp
  refine condK_of ?_ ?_ <;> intro q <;> simp -dsimp [*]
  · simp_all [chE, mom_eq]
  refine call_bool hf ?_
  simp -dsimp
  refine condK_of ?_ ?_ <;> intro q <;> simp -dsimp [*]
  · simp_all [chE, mom_eq]
  rcases kinds k with rfl | rfl | rfl | rfl | rfl | rfl | ⟨h1, h2, h3, h4, h5, h6, h7⟩
  all_goals
    simp -dsimp [*]
    repeat' (first
      | (refine condK_of ?_ ?_ <;> intro q <;> simp -dsimp [*])
      | (refine wantF_of ?_ ?_ <;> intro q <;> simp -dsimp [*])
      | (refine wantT_of ?_ ?_ <;> intro q <;> simp -dsimp [*])
      | (refine call_int (checkEntryRef_ok (eid, eat, ec, eg, ei, en) he) ?_; simp -dsimp)
      | (refine call_bool (inBR_ok _ _ _) ?_; simp -dsimp)
      | (refine call_bool (shiftB_ok _) ?_; simp -dsimp)
      | (refine call_bool (isName_ok _ hg) ?_; simp -dsimp))
  all_goals (simp_all [chE, mom_eq] <;> (intros; simp_all))
section
variable {h : Hp} {k : Nat} {kk : IntKind} {K : V → List Nat → Prop} {l : List Change} {a : Change}
theorem ch_ia (e : l[k]? = some a) : iaddrK h (.ro l.length (fl chCd l)) (.int kk k) 11 K ⟨⟩ = K (.rp (fl chCd l) (k * 11)) [] := iaddr_fl rfl (by decide) e
theorem ch_ld (e : l[k]? = some a) : ldA h (.rp (fl chCd l) (k * 11)) (some 11) = some (.agg (chV a)) := ld_fls (n := 11) rfl e
theorem ch_l0 (e : l[k]? = some a) : ldA h (.rp (fl chCd l) (k * 11)) none = some (.int .i64 a.1) := ld_fl0 (n := 11) rfl (by decide) e
end
def changeE (l : List Change) (k : Nat) : Int := match l[k]? with
  | none => 0
  | some x => if chE x ≠ 0 then chE x else if before l (fun t => decide (x.1 < t.1)) k then 8 else 0
def changesE (l : List Change) : Int := if 1000 < l.length then 2 else fe (changeE l) l.length
theorem changes_ok (l : List Change) (hl : ∀ x ∈ l, chOk x) : OkF Try.prog 12 [.ro l.length (fl chCd l)] (.int .i64 (changesE l), []) := by
  refine OkF.W0 hm h12 (of_decide_eq_true rfl) ?_
  unfold c12
  by_cases h1 : 1000 < l.length
  · have h1' : (1000 < (l.length : Int)) := by omega
    simp -dsimp [h1', changesE, h1]
  have h1' : ¬ (1000 < (l.length : Int)) := by omega
  simp -dsimp [h1']
  have hfe : changesE l = fe (changeE l) l.length := if_neg h1
  refine for_lt l.length (fun k s' => s'.t 0 = .ro l.length (fl chCd l) ∧ s'.t 9 = .ro l.length (fl chCd l) ∧ fe (changeE l) k = 0) rfl (by omega) (by simp -dsimp [fe]) (by simp -dsimp) (by simp -dsimp) (fun k s' hk hI hi hn => ?_) (fun s' hI hi hn => ?_)
  · obtain ⟨i0, i1, i3⟩ := hI
    have hg : l[k]? = some l[k] := List.getElem?_eq_getElem hk
    have hx := hl l[k] (List.getElem_mem hk)
    generalize l[k] = x at hg hx
    obtain ⟨z, hz⟩ := prev_get hg
    have hwj : 0 < k → IntKind.i64.wrap ((k : Int) - 1) = ((k - 1 : Nat) : Int) := fun h => wrap_pred h (by omega)
    have hbp : ∀ p, 0 < k → before l p k = p z := fun p h => before_pos h (hz h)
    have bad : ∀ v, changeE l k = v → v ≠ 0 → changesE l = v := fun v h1 h2 => by rw [hfe, fe_stop i3 (by rw [h1]; exact h2) hk, h1]
    have hc := checkChange_ok x hx
    have hch : changeE l k = if chE x ≠ 0 then chE x else if before l (fun t => decide (x.1 < t.1)) k then 8 else 0 := by unfold changeE; rw [hg]
    unfold k12_0
    simp -dsimp [i0, i1, hi, hn, ch_ia hg, ch_ld hg]
    unfold chV at hc ⊢
    simp -dsimp
    refine call_int hc ?_
    simp -dsimp
    refine condK_of ?_ ?_ <;> intro a1 <;> simp -dsimp [a1]
    · have a1' : chE x ≠ 0 := by simpa using a1
      rw [bad (chE x) (by rw [hch, if_pos a1']) a1']
    have a1' : chE x = 0 := by simpa using a1
    refine wantT_of ?_ ?_ <;> intro a4 <;> simp -dsimp [a4, i0]
    · have hp : 0 < k := by simpa using a4
      simp -dsimp [hwj hp, ch_ia (hz hp), ch_l0 (hz hp)]
      refine condK_of ?_ ?_ <;> intro a5 <;> simp -dsimp [a5]
      · rw [bad 8 (by rw [hch, hbp _ hp]; simp [a1']; simpa using a5) (by decide)]
      · simp -dsimp [i0, i1, hi, hn]
        exact fe_step i3 (by rw [hch, hbp _ hp]; simp [a1']; simpa using a5)
    · simp -dsimp [i0, i1, hi, hn]
      have hp : ¬ 0 < k := by simpa using a4
      exact fe_step i3 (by rw [hch, before_zero hp]; simp [a1'])
  · simp -dsimp [hfe, hI.2.2]
theorem changesRef_ok (l : List Change) (hl : ∀ x ∈ l, chOk x) : OkF Try.prog 13 [.ro l.length (fl chCd l)] (.int .i64 (changesE l), []) := by
  refine OkF.W0 hm h13 (of_decide_eq_true rfl) ?_
  unfold c13
  by_cases h1 : 1000 < l.length
  · have h1' : (1000 < (l.length : Int)) := by omega
    simp -dsimp [h1', changesE, h1]
  have h1' : ¬ (1000 < (l.length : Int)) := by omega
  have hfe : changesE l = fe (changeE l) l.length := if_neg h1
  simp -dsimp [h1']
  refine loop_to 3 l.length (fun k t => t.t 3 = .int .i64 k ∧ t.t 0 = .ro l.length (fl chCd l) ∧ fe (changeE l) k = 0) (fun k t h => h.1) ⟨by simp -dsimp, by simp -dsimp, rfl⟩ (fun k t hk hI => ?_)
  obtain ⟨i3, i0, iu⟩ := hI
  by_cases hlt : k < l.length
  · have hlt' : (k : Int) < (l.length : Int) := by omega
    have hg : l[k]? = some l[k] := List.getElem?_eq_getElem hlt
    have hw : IntKind.i64.wrap ((k : Int) + 1) = (k : Int) + 1 := IntWalk.i64_in _ (by omega)
    have hx := hl l[k] (List.getElem_mem hlt)
    generalize l[k] = x at hg hx
    obtain ⟨z, hz⟩ := prev_get hg
    have hwj : 0 < k → IntKind.i64.wrap ((k : Int) - 1) = ((k - 1 : Nat) : Int) := fun h => wrap_pred h (by omega)
    have hbp : ∀ p, 0 < k → before l p k = p z := fun p h => before_pos h (hz h)
    have bad : ∀ v, changeE l k = v → v ≠ 0 → changesE l = v := fun v h1 h2 => by rw [hfe, fe_stop iu (by rw [h1]; exact h2) hlt, h1]
    have hc := checkChangeRef_ok x hx
    have hch : changeE l k = if chE x ≠ 0 then chE x else if before l (fun t => decide (x.1 < t.1)) k then 8 else 0 := by unfold changeE; rw [hg]
    unfold l13_0
    simp -dsimp [i3, i0, hlt', hw, ch_ia hg, ch_ld hg]
    unfold chV at hc ⊢
    simp -dsimp
    refine call_int hc ?_
    simp -dsimp
    refine condK_of ?_ ?_ <;> intro a1 <;> simp -dsimp [a1, i3, i0, hw]
    · have a1' : chE x ≠ 0 := by simpa using a1
      rw [bad (chE x) (by rw [hch, if_pos a1']) a1']
    have a1' : chE x = 0 := by simpa using a1
    refine wantT_of ?_ ?_ <;> intro a4 <;> simp -dsimp [a4, i3, i0, hw, ch_ia hg, ch_l0 hg]
    · have hp : 0 < k := by simpa using a4
      simp -dsimp [hwj hp, ch_ia (hz hp), ch_l0 (hz hp)]
      refine condK_of ?_ ?_ <;> intro a5 <;> simp -dsimp [a5, i3, i0, hw]
      · rw [bad 8 (by rw [hch, hbp _ hp]; simp [a1']; simpa using a5) (by decide)]
      · exact ⟨by omega, fe_step iu (by rw [hch, hbp _ hp]; simp [a1']; simpa using a5)⟩
    · have hp : ¬ 0 < k := by simpa using a4
      exact ⟨by omega, fe_step iu (by rw [hch, before_zero hp]; simp [a1'])⟩
  · have hkl : k = l.length := by omega
    subst hkl
    unfold l13_0
    simp -dsimp [i3, i0, hfe, iu]
end Go.Proofs.C6
