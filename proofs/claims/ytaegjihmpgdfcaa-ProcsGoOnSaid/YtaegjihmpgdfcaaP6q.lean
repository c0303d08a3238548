/- Steps and procedures alone are right. -/
import Derived.Test.YtaegjihmpgdfcaaP6p
set_option linter.unusedVariables false
set_option linter.unusedSimpArgs false
set_option maxRecDepth 10000
set_option maxHeartbeats 8000000
namespace Go.Proofs.P6
open Go.Ex
def txB (k : Int) : Bool := decide (k = 1) || decide (k = 6) || decide (k = 3) || decide (k = 4)
def nB (k : Int) : Bool := decide (k = 2) || decide (k = 3)
def laB (k : Int) : Bool := decide (k = 3) || decide (k = 4) || decide (k = 5) || decide (k = 8)
def formB (x : Step) : Bool := (txB x.1 || decide (x.2.1 = [])) && (nB x.1 || decide (x.2.2.2.1 = 0)) && (laB x.1 || decide (x.2.2.1 = [])) && (!x.2.2.2.2 || decide (x.1 = 4))
def stepE (x : Step) : Int := if !inB x.1 1 8 then 4 else if !formB x || decide (x.1 = 1) && !cmd x.2.1 then 3 else if txB x.1 && !decide (x.1 = 1) && !nm x.2.1 then 5 else if nB x.1 && !inB x.2.2.2.1 1 1000000000 then 1 else if laB x.1 && !nm x.2.2.1 then 5 else 0
def stepOk (x : Step) : Prop := x.2.1.length < 2 ^ 62 ∧ x.2.2.1.length < 2 ^ 62
theorem kinds8 (k : Int) : k = 1 ∨ k = 2 ∨ k = 3 ∨ k = 4 ∨ k = 5 ∨ k = 6 ∨ k = 7 ∨ k = 8 ∨ (¬ k = 1 ∧ ¬ k = 2 ∧ ¬ k = 3 ∧ ¬ k = 4 ∧ ¬ k = 5 ∧ ¬ k = 6 ∧ ¬ k = 7 ∧ ¬ k = 8 ∧ inB k 1 8 = false) := by
  have : inB k 1 8 = false ∨ (1 ≤ k ∧ k ≤ 8) := by
    by_cases h : 1 ≤ k ∧ k ≤ 8
    · exact .inr h
    · left; unfold inB; simp; omega
  rcases this with h | h
  · have : ¬ (1 ≤ k ∧ k ≤ 8) := by unfold inB at h; simp at h; omega
    exact .inr (.inr (.inr (.inr (.inr (.inr (.inr (.inr ⟨by omega, by omega, by omega, by omega, by omega, by omega, by omega, by omega, h⟩)))))))
  · omega
theorem i81 : inB 1 1 8 = true := rfl
theorem i82 : inB 2 1 8 = true := rfl
theorem i83 : inB 3 1 8 = true := rfl
theorem i84 : inB 4 1 8 = true := rfl
theorem i85 : inB 5 1 8 = true := rfl
theorem i86 : inB 6 1 8 = true := rfl
theorem i87 : inB 7 1 8 = true := rfl
theorem i88 : inB 8 1 8 = true := rfl
theorem labelled_ok' (k : Int) (t la : List UInt8) (n : Int) (nt : Bool) : OkF Try.prog 157 [.agg [.int .i64 k, .str t, .str la, .int .i64 n, .bool nt]] (.bool (goB k || decide (k = 8)), []) := labelled_ok (k, t, la, n, nt)
theorem checkStep_ok (x : Step) (hx : stepOk x) : OkF Try.prog 112 [.agg (stepV x)] (.int .i64 (stepE x), []) := by
  obtain ⟨k, t, la, n, nt⟩ := x
  obtain ⟨ht, hl⟩ := hx
  simp only at ht hl
  refine OkF.W0 hm h112 (of_decide_eq_true rfl) ?_
  unfold c112
  rcases kinds8 k with rfl | rfl | rfl | rfl | rfl | rfl | rfl | rfl | ⟨h1, h2, h3, h4, h5, h6, h7, h8, h9⟩
  all_goals
    simp -dsimp [stepV, seqA, eqCells, tagOf, fillS, disj, idOf, *]
    repeat' (first
      | (refine condK_of ?_ ?_ <;> intro q <;> simp -dsimp [q, *, seqA, eqCells, tagOf, fillS, disj, idOf])
      | (refine wantT_of ?_ ?_ <;> intro q <;> simp -dsimp [q, *, seqA, eqCells, tagOf, fillS, disj, idOf])
      | (refine wantF_of ?_ ?_ <;> intro q <;> simp -dsimp [q, *, seqA, eqCells, tagOf, fillS, disj, idOf])
      | (refine call_bool (command_ok _ ht) ?_; simp -dsimp [*, seqA, eqCells, tagOf, fillS, disj, idOf])
      | (refine call_bool (name_ok _) ?_; simp -dsimp [*, seqA, eqCells, tagOf, fillS, disj, idOf])
      | (refine call_bool (inB_ok _ _ _) ?_; simp -dsimp [*, seqA, eqCells, tagOf, fillS, disj, idOf])
      | (refine call_bool (labelled_ok' _ _ _ _ _) ?_; simp -dsimp [goB, *]))
  all_goals (simp_all [stepE, formB, txB, nB, laB, goB, i81, i82, i83, i84, i85, i86, i87, i88] <;> (intros; simp_all))
theorem has_ok (k : Int) : OkF Try.prog 115 [.int .i64 k] (.tup [.bool (txB k), .bool (nB k), .bool (laB k)], []) := by
  refine OkF.W0 hm h115 (of_decide_eq_true rfl) ?_
  unfold c115
  rcases kinds8 k with rfl | rfl | rfl | rfl | rfl | rfl | rfl | rfl | ⟨h1, h2, h3, h4, h5, h6, h7, h8, h9⟩
  all_goals
    simp -dsimp [*]
  all_goals (simp_all [txB, nB, laB])
theorem lab_dup {l : List Step} {i : Nat} {x : Step} {s : List UInt8} (hg : l[i]? = some x) (hs : isLab s x = true) : decide (ixI (isLab s) l < i) = decide (0 ≤ ixI (isLab s) (l.take i)) := by
  have hi := (List.getElem?_eq_some_iff.1 hg).1
  rw [Bool.eq_iff_iff, decide_eq_true_eq, decide_eq_true_eq]
  rcases ixI_cases (isLab s) (l.take i) with ⟨h1, h2⟩ | ⟨k, a, h1, h2, h3, h4⟩
  · rw [h1]
    have : ixI (isLab s) l = i := ixI_stop (fun j b hj hb => h2 b (List.mem_of_getElem? (by rw [List.getElem?_take, if_pos hj]; exact hb))) hg hs
    omega
  · rw [h1]
    have hk := (List.getElem?_eq_some_iff.1 h2).1
    simp at hk
    have hka : l[k]? = some a := by rw [← h2, List.getElem?_take, if_pos (by omega)]
    have : ixI (isLab s) l = k := ixI_stop (fun j b hj hb => h4 j b hj (by rw [List.getElem?_take, if_pos (by omega)]; exact hb)) hka h3
    omega
def stE (l : List Step) (k : Nat) : Int := match l[k]? with
  | none => 0
  | some x => if stepE x ≠ 0 then stepE x else if decide (x.1 = 8) && decide (0 ≤ ixI (isLab x.2.2.1) (l.take k)) then 7 else 0
theorem checkStepRef_ok (nam : List UInt8) (l : List Step) (i : Nat) (x : Step) (hg : l[i]? = some x) (hx : stepOk x) (hl : l.length < 2 ^ 62) : OkF Try.prog 61 [.agg [.str nam, .ro l.length (fl stepCd l)], .int .i64 i] (.int .i64 (stE l i), []) := by
  have hE : stE l i = if stepE x ≠ 0 then stepE x else if decide (x.1 = 8) && decide (0 ≤ ixI (isLab x.2.2.1) (l.take i)) then 7 else 0 := by unfold stE; rw [hg]
  have hdup : x.1 = 8 → decide (ixI (isLab x.2.2.1) l < i) = decide (0 ≤ ixI (isLab x.2.2.1) (l.take i)) := fun h => lab_dup hg (by simp [isLab, h])
  have hlo := labelOf_ok nam l x.2.2.1 hl
  rw [hE]
  obtain ⟨k, t, la, n, nt⟩ := x
  obtain ⟨ht, hla⟩ := hx
  simp only at ht hla hdup hlo
  refine OkF.W0 hm h61 (of_decide_eq_true rfl) ?_
  unfold c61
  simp -dsimp [step_ia hg, step_ld hg, stepV]
  refine call_bool (inBR_ok _ _ _) ?_
  simp -dsimp
  refine condK_of ?_ ?_ <;> intro q <;> simp -dsimp
  · simp_all [stepE]
  refine call_one (has_ok k) rfl ?_
  simp -dsimp
  rcases kinds8 k with rfl | rfl | rfl | rfl | rfl | rfl | rfl | rfl | ⟨h1, h2, h3, h4, h5, h6, h7, h8, h9⟩
  all_goals
    simp -dsimp [*, txB, nB, laB]
    repeat' (first
      | (refine condK_of ?_ ?_ <;> intro q <;> simp -dsimp [q, *, disj, idOf])
      | (refine wantT_of ?_ ?_ <;> intro q <;> simp -dsimp [q, *, disj, idOf])
      | (refine wantF_of ?_ ?_ <;> intro q <;> simp -dsimp [q, *, disj, idOf])
      | (refine call_bool (isCommand_ok _ ht) ?_; simp -dsimp [*, disj, idOf])
      | (refine call_bool (isName_ok _ ht) ?_; simp -dsimp [*, disj, idOf])
      | (refine call_bool (isName_ok _ hla) ?_; simp -dsimp [*, disj, idOf])
      | (refine call_bool (inBR_ok _ _ _) ?_; simp -dsimp [*, disj, idOf])
      | (refine call_int (hlo) ?_; simp -dsimp [*, disj, idOf]))
  all_goals (simp_all [stepE, formB, txB, nB, laB, i81, i82, i83, i84, i85, i86, i87, i88] <;> (intros; simp_all))
def procE (p : Prc) : Int := if !nm p.1 then 5 else if 200 < p.2.length then 2 else fe (stE p.2) p.2.length
theorem checkProc_ok (nam : List UInt8) (l : List Step) (hok : ∀ x ∈ l, stepOk x) : OkF Try.prog 56 [.agg [.str nam, .ro l.length (fl stepCd l)]] (.int .i64 (procE (nam, l)), []) := by
  refine OkF.W0 hm h56 (of_decide_eq_true rfl) ?_
  unfold c56
  simp -dsimp
  refine call_bool (name_ok _) ?_
  simp -dsimp
  refine condK_of ?_ ?_ <;> intro q <;> simp -dsimp
  · simp_all [procE]
  refine condK_of ?_ ?_ <;> intro q1 <;> simp -dsimp
  · have : 200 < l.length := by simp at q1; omega
    simp_all [procE]
  have hl : l.length ≤ 200 := by simp at q1; omega
  have hE : procE (nam, l) = fe (stE l) l.length := by
    unfold procE
    simp at q
    rw [if_neg (by simp [q]), if_neg (by simp; omega)]
  refine for_lt l.length (fun k t => t.t 1 = .pt 0 0 0 ∧ 0 < t.nx ∧ t.h 0 = some ⟨0, 0, [.str nam, .ro l.length (fl stepCd l)], none⟩ ∧ t.t 17 = .ro l.length (fl stepCd l) ∧ fe (stE l) k = 0) rfl (by omega) (by simp -dsimp [fe]) (by simp -dsimp) (by simp -dsimp) (fun k t hk hI hi hn => ?_) (fun t hI hi hn => ?_)
  · obtain ⟨i1, inx, ih, i17, iu⟩ := hI
    have hg : l[k]? = some l[k] := List.getElem?_eq_getElem hk
    have hmem := List.getElem_mem hk
    generalize l[k] = x at hg hmem
    have hch : stE l k = if stepE x ≠ 0 then stepE x else if decide (x.1 = 8) && decide (0 ≤ ixI (isLab x.2.2.1) (l.take k)) then 7 else 0 := by unfold stE; rw [hg]
    have bad : ∀ v, stE l k = v → v ≠ 0 → procE (nam, l) = v := fun v h1 h2 => by rw [hE, fe_stop iu (by rw [h1]; exact h2) hk, h1]
    have hne : (0 : Nat) ≠ t.nx := by omega
    have hla := labelAt_ok (l.take k) x.2.2.1 (by rw [List.length_take]; omega)
    rw [List.length_take] at hla
    unfold k56_0
    simp -dsimp [i1, i17, hi, hn, step_ia hg, step_ld hg, stepV]
    refine call_int (checkStep_ok x (hok x hmem)) ?_
    simp -dsimp
    refine condK_of ?_ ?_ <;> intro a1 <;> simp -dsimp [i1, hne, ih]
    · simp at a1
      rw [bad (stepE x) (by rw [hch, if_pos a1]) a1]
    simp at a1
    refine wantT_of ?_ ?_ <;> intro a2 <;> simp -dsimp [i1, hne, ih, a2, hi, hn, i17, inx]
    · rw [slcK_ro (slc_ro_hi (d := stepCd) (esz := 5) rfl (Nat.le_of_lt hk))]
      simp -dsimp [disj, idOf, i1, hne, ih]
      refine call_int hla ?_
      simp -dsimp [disj, idOf]
      refine condK_of ?_ ?_ <;> intro a3 <;> simp -dsimp [i1, hne, ih, a2, hi, hn, i17, inx]
      · rw [bad 7 (by rw [hch]; simp_all) (by decide)]
      · have hx := fe_step iu (by rw [hch]; simp_all)
        first | exact hx | exact ⟨by omega, hx⟩
    · have hx := fe_step iu (by rw [hch]; simp_all)
      first | exact hx | exact ⟨by omega, hx⟩
  · simp -dsimp [hE, hI.2.2.2.2]
end Go.Proofs.P6
