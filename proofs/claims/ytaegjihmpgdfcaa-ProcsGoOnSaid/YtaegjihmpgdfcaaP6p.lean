/- Procedures: steps, labels, names. -/
import Derived.Test.YtaegjihmpgdfcaaP6g
import Derived.Test.YtaegjihmpgdfcaaP6D
import Derived.Test.YtaegjihmpgdfcaaExU
set_option linter.unusedVariables false
set_option linter.unusedSimpArgs false
set_option maxRecDepth 10000
set_option maxHeartbeats 4000000
namespace Go.Proofs.P6
open Go.Ex
/-- Kind, Text, Label, N, Not. -/
abbrev Step := Int × List UInt8 × List UInt8 × Int × Bool
abbrev Prc := List UInt8 × List Step
def stepCd : Cd Step := .pair (.int .i64) (.pair .str (.pair .str (.pair (.int .i64) .bool)))
def procCd : Cd Prc := .pair .str (.slice stepCd)
def stepV (x : Step) : List V := [.int .i64 x.1, .str x.2.1, .str x.2.2.1, .int .i64 x.2.2.2.1, .bool x.2.2.2.2]
theorem step_cells (x : Step) : stepCd.cells x = stepV x := rfl
section
variable {h : Hp} {k : Nat} {kk : IntKind} {K : V → List Nat → Prop}
theorem step_ia {l : List Step} {a : Step} (e : l[k]? = some a) : iaddrK h (.ro l.length (fl stepCd l)) (.int kk k) 5 K ⟨⟩ = K (.rp (fl stepCd l) (k * 5)) [] := iaddr_fl rfl (by decide) e
theorem step_ld {l : List Step} {a : Step} (e : l[k]? = some a) : ldA h (.rp (fl stepCd l) (k * 5)) (some 5) = some (.agg (stepV a)) := ld_fls (n := 5) rfl e
theorem step_l0 {l : List Step} {a : Step} (e : l[k]? = some a) : ldA h (.rp (fl stepCd l) (k * 5)) none = some (.int .i64 a.1) := ld_fl0 (n := 5) rfl (by decide) e
theorem step_l1 {l : List Step} {a : Step} (e : l[k]? = some a) : ldA h (.rp (fl stepCd l) (k * 5 + 1)) none = some (.str a.2.1) := ld_fl (n := 5) rfl (by decide) e
theorem step_l2 {l : List Step} {a : Step} (e : l[k]? = some a) : ldA h (.rp (fl stepCd l) (k * 5 + 2)) none = some (.str a.2.2.1) := ld_fl (n := 5) rfl (by decide) e
theorem proc_ia {l : List Prc} {a : Prc} (e : l[k]? = some a) : iaddrK h (.ro l.length (fl procCd l)) (.int kk k) 2 K ⟨⟩ = K (.rp (fl procCd l) (k * 2)) [] := iaddr_fl rfl (by decide) e
theorem proc_ld {l : List Prc} {a : Prc} (e : l[k]? = some a) : ldA h (.rp (fl procCd l) (k * 2)) (some 2) = some (.agg [.str a.1, .ro a.2.length (fl stepCd a.2)]) := ld_fls (n := 2) rfl e
theorem proc_l0 {l : List Prc} {a : Prc} (e : l[k]? = some a) : ldA h (.rp (fl procCd l) (k * 2)) none = some (.str a.1) := ld_fl0 (n := 2) rfl (by decide) e
theorem proc_l1 {l : List Prc} {a : Prc} (e : l[k]? = some a) : ldA h (.rp (fl procCd l) (k * 2 + 1)) none = some (.ro a.2.length (fl stepCd a.2)) := ld_fl (n := 2) rfl (by decide) e
end
def goB (k : Int) : Bool := decide (k = 3) || decide (k = 4) || decide (k = 5)
theorem goesTo_ok (x : Step) : OkF Try.prog 57 [.agg (stepV x)] (.bool (goB x.1), []) := by
  refine OkF.W0 hm h57 (of_decide_eq_true rfl) ?_
  unfold c57
  simp -dsimp [stepV]
  repeat' (first
    | (refine condK_of ?_ ?_ <;> intro q <;> simp -dsimp [q])
    | (refine wantT_of ?_ ?_ <;> intro q <;> simp -dsimp [q])
    | (refine wantF_of ?_ ?_ <;> intro q <;> simp -dsimp [q]))
  all_goals simp_all [goB]
theorem labelled_ok (x : Step) : OkF Try.prog 157 [.agg (stepV x)] (.bool (goB x.1 || decide (x.1 = 8)), []) := by
  refine OkF.W0 hm h157 (of_decide_eq_true rfl) ?_
  unfold c157
  simp -dsimp [stepV]
  refine call_bool (goesTo_ok x) ?_
  simp -dsimp
  repeat' (first
    | (refine condK_of ?_ ?_ <;> intro q <;> simp -dsimp [q])
    | (refine wantT_of ?_ ?_ <;> intro q <;> simp -dsimp [q])
    | (refine wantF_of ?_ ?_ <;> intro q <;> simp -dsimp [q]))
  all_goals simp_all
/-- A label. -/
def isLab (s : List UInt8) (x : Step) : Bool := decide (x.1 = 8) && decide (x.2.2.1 = s)
theorem isLab_ok (s : List UInt8) (x : Step) {h : Hp} {nx b : Nat} (hb : b < nx) (hh : h b = some ⟨0, 0, [.str s], none⟩) : SEx Try.prog 114 [.agg (stepV x), .pt b 0 0] h nx (Quiet (.bool (isLab s x)) h nx) := by
  have hne : b ≠ nx := by omega
  refine SEx.of hm h114 (of_decide_eq_true rfl) ?_
  unfold c114
  simp -dsimp [stepV]
  repeat' (first
    | (refine condK_of ?_ ?_ <;> intro q <;> simp -dsimp [q, hne, hh])
    | (refine wantT_of ?_ ?_ <;> intro q <;> simp -dsimp [q, hne, hh])
    | (refine wantF_of ?_ ?_ <;> intro q <;> simp -dsimp [q, hne, hh]))
  all_goals
    refine ⟨by simp_all [isLab], by simp, fun j hj => ?_⟩
    have : j ≠ nx := by omega
    simp [this]
theorem labelAt_ok (l : List Step) (s : List UInt8) (hl : l.length < 2 ^ 62) : OkF Try.prog 58 [.ro l.length (fl stepCd l), .str s] (.int .i64 (ixI (isLab s) l), []) := by
  refine OkF.W0 hm h58 (of_decide_eq_true rfl) ?_
  unfold c58
  simp -dsimp
  refine shr_ex (indexFunc_ok (d := stepCd) hm h113 rfl (by decide) l hl (isLab s) (by kernel_rfl) fun a ha h' nx' h1 h2 => isLab_ok s a (by omega) (by rw [h2 0 (by omega)]; simp)) ?_
  rintro v h' nx' ⟨rfl, q1, q2⟩
  simp -dsimp
theorem isProc_ok (s : List UInt8) (x : Prc) {h : Hp} {nx b : Nat} (hb : b < nx) (hh : h b = some ⟨0, 0, [.str s], none⟩) : SEx Try.prog 111 [.agg (procCd.cells x), .pt b 0 0] h nx (Quiet (.bool (decide (x.1 = s))) h nx) := by
  have hne : b ≠ nx := by omega
  have e : procCd.cells x = [.str x.1, .ro x.2.length (fl stepCd x.2)] := rfl
  rw [e]
  refine SEx.of hm h111 (of_decide_eq_true rfl) ?_
  unfold c111
  simp -dsimp [hne, hh]
  refine ⟨rfl, by simp, fun j hj => ?_⟩
  have : j ≠ nx := by omega
  simp [this]
/-- The place of a procedure. -/
def prI (l : List Prc) (s : List UInt8) : Int := ixI (fun x => decide (x.1 = s)) l
theorem procAt_ok (l : List Prc) (s : List UInt8) (hl : l.length < 2 ^ 62) : OkF Try.prog 54 [.ro l.length (fl procCd l), .str s] (.int .i64 (prI l s), []) := by
  refine OkF.W0 hm h54 (of_decide_eq_true rfl) ?_
  unfold c54
  simp -dsimp
  refine shr_ex (indexFunc_ok (d := procCd) hm h110 rfl (by decide) l hl (fun x => decide (x.1 = s)) (by kernel_rfl) fun a ha h' nx' h1 h2 => isProc_ok s a (by omega) (by rw [h2 0 (by omega)]; simp)) ?_
  rintro v h' nx' ⟨rfl, q1, q2⟩
  simp -dsimp [prI]
theorem procOf_ok (l : List Prc) (s : List UInt8) (hl : l.length < 2 ^ 62) : OkF Try.prog 55 [.ro l.length (fl procCd l), .str s] (.int .i64 (prI l s), []) := by
  have e62 := Go.Ex.e62
  refine OkF.W0 hm h55 (of_decide_eq_true rfl) ?_
  unfold c55
  simp -dsimp
  refine loop_to 5 l.length (fun k t => t.t 5 = .int .i64 k ∧ t.t 0 = .ro l.length (fl procCd l) ∧ t.t 1 = .str s ∧ Not' (fun x => decide (x.1 = s)) l k) (fun k t h => h.1) (by simp -dsimp [Not'.zero]) (fun k t hk hI => ?_)
  obtain ⟨i5, i0, i1, iu⟩ := hI
  unfold l55_0
  by_cases hlt : k < l.length
  · have hlt' : (k : Int) < (l.length : Int) := by omega
    have hw : IntKind.i64.wrap ((k : Int) + 1) = (k : Int) + 1 := IntWalk.i64_in _ (by omega)
    have hg : l[k]? = some l[k] := List.getElem?_eq_getElem hlt
    generalize l[k] = x at hg
    simp -dsimp [i5, i1, i0, hlt', proc_ia hg, proc_l0 hg]
    refine condK_of ?_ ?_ <;> intro q <;> simp -dsimp [q, i5, i1, i0, hw, hlt]
    · simp [prI, ixI_stop iu hg q]
    · exact iu.succ hg q
  · have hkl : k = l.length := by omega
    subst hkl
    simp -dsimp [i5, i0, prI, ixI_none iu]
theorem labelOf_ok (n : List UInt8) (l : List Step) (s : List UInt8) (hl : l.length < 2 ^ 62) : OkF Try.prog 62 [.agg [.str n, .ro l.length (fl stepCd l)], .str s] (.int .i64 (ixI (isLab s) l), []) := by
  have e62 := Go.Ex.e62
  refine OkF.W0 hm h62 (of_decide_eq_true rfl) ?_
  unfold c62
  simp -dsimp
  refine loop_to 5 l.length (fun k t => t.t 5 = .int .i64 k ∧ t.t 2 = .pt 0 0 0 ∧ t.h 0 = some ⟨0, 0, [.str n, .ro l.length (fl stepCd l)], none⟩ ∧ t.t 1 = .str s ∧ Not' (isLab s) l k) (fun k t h => h.1) (by simp -dsimp [Not'.zero]) (fun k t hk hI => ?_)
  obtain ⟨i5, i2, ih, i1, iu⟩ := hI
  unfold l62_0
  by_cases hlt : k < l.length
  · have hlt' : (k : Int) < (l.length : Int) := by omega
    have hw : IntKind.i64.wrap ((k : Int) + 1) = (k : Int) + 1 := IntWalk.i64_in _ (by omega)
    have hg : l[k]? = some l[k] := List.getElem?_eq_getElem hlt
    generalize l[k] = x at hg
    simp -dsimp [i5, i1, i2, ih, hlt', step_ia hg, step_l0 hg]
    repeat' (first
      | (refine condK_of ?_ ?_ <;> intro q <;> simp -dsimp [q, i5, i1, i2, ih, hw, hlt, step_ia hg, step_l0 hg, step_l2 hg])
      | (refine wantT_of ?_ ?_ <;> intro q <;> simp -dsimp [q, i5, i1, i2, ih, hw, hlt, step_ia hg, step_l0 hg, step_l2 hg])
      | (refine wantF_of ?_ ?_ <;> intro q <;> simp -dsimp [q, i5, i1, i2, ih, hw, hlt, step_ia hg, step_l0 hg, step_l2 hg]))
    all_goals first
      | (have hp : isLab s x = true := by simp_all [isLab]
         simp [ixI_stop iu hg hp]; done)
      | (have hp : isLab s x = false := by simp_all [isLab]
         exact iu.succ hg hp)
  · have hkl : k = l.length := by omega
    subst hkl
    simp -dsimp [i5, i2, ih, ixI_none iu]
end Go.Proofs.P6
