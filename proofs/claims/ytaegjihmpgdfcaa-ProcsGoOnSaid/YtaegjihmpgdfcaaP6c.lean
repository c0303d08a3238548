/- Facts are right. -/
import Derived.Test.YtaegjihmpgdfcaaP6a
set_option linter.unusedVariables false
set_option linter.unusedSimpArgs false
set_option maxRecDepth 10000
set_option maxHeartbeats 4000000
namespace Go.Proofs.P6
open Go.Ex
abbrev Span := Int × Int
abbrev Fact := List UInt8 × List Span
def spanCd : Cd Span := .pair (.int .i64) (.int .i64)
def factCd : Cd Fact := .pair .str (.slice spanCd)
theorem span_cells (a : Span) : spanCd.cells a = [.int .i64 a.1, .int .i64 a.2] := rfl
theorem fact_cells (a : Fact) : factCd.cells a = [.str a.1, .ro a.2.length (fl spanCd a.2)] := rfl
section
variable {h : Hp} {k : Nat} {kk : IntKind} {K : V → List Nat → Prop}
theorem span_ia {l : List Span} {a : Span} (e : l[k]? = some a) : iaddrK h (.ro l.length (fl spanCd l)) (.int kk k) 2 K ⟨⟩ = K (.rp (fl spanCd l) (k * 2)) [] := iaddr_fl rfl (by decide) e
theorem span_ld {l : List Span} {a : Span} (e : l[k]? = some a) : ldA h (.rp (fl spanCd l) (k * 2)) (some 2) = some (.agg [.int .i64 a.1, .int .i64 a.2]) := ld_fls (n := 2) rfl e
theorem span_l0 {l : List Span} {a : Span} (e : l[k]? = some a) : ldA h (.rp (fl spanCd l) (k * 2)) none = some (.int .i64 a.1) := ld_fl0 (n := 2) rfl (by decide) e
theorem span_l1 {l : List Span} {a : Span} (e : l[k]? = some a) : ldA h (.rp (fl spanCd l) (k * 2 + 1)) none = some (.int .i64 a.2) := ld_fl (n := 2) rfl (by decide) e
theorem fact_ia {l : List Fact} {a : Fact} (e : l[k]? = some a) : iaddrK h (.ro l.length (fl factCd l)) (.int kk k) 2 K ⟨⟩ = K (.rp (fl factCd l) (k * 2)) [] := iaddr_fl rfl (by decide) e
theorem fact_ld {l : List Fact} {a : Fact} (e : l[k]? = some a) : ldA h (.rp (fl factCd l) (k * 2)) (some 2) = some (.agg [.str a.1, .ro a.2.length (fl spanCd a.2)]) := ld_fls (n := 2) rfl e
theorem fact_l0 {l : List Fact} {a : Fact} (e : l[k]? = some a) : ldA h (.rp (fl factCd l) (k * 2)) none = some (.str a.1) := ld_fl0 (n := 2) rfl (by decide) e
theorem fact_l1 {l : List Fact} {a : Fact} (e : l[k]? = some a) : ldA h (.rp (fl factCd l) (k * 2 + 1)) none = some (.ro a.2.length (fl spanCd a.2)) := ld_fl (n := 2) rfl (by decide) e
end
def spE (l : List Span) (k : Nat) : Int := match l[k]? with
  | none => 0
  | some s => if !(momB s.1 && momB s.2) then 1 else if s.2 ≤ s.1 then 13 else if before l (fun t => decide (s.1 < t.2)) k then 8 else 0
def spansE (l : List Span) : Int := fe (spE l) l.length
def factE (l : List Fact) (k : Nat) : Int := match l[k]? with
  | none => 0
  | some x => if !nm x.1 then 5 else if 200 < x.2.length then 2 else if spansE x.2 ≠ 0 then spansE x.2 else if before l (fun t => leS x.1 t.1) k then 8 else 0
def factsE (l : List Fact) : Int := if 100 < l.length then 2 else fe (factE l) l.length
theorem facts_ok (l : List Fact) : OkF Try.prog 68 [.ro l.length (fl factCd l)] (.int .i64 (factsE l), []) := by
  refine OkF.W0 hm h68 (of_decide_eq_true rfl) ?_
  unfold c68
  by_cases h1 : 100 < l.length
  · have h1' : (100 < (l.length : Int)) := by omega
    simp -dsimp [h1', factsE, h1]
  have h1' : ¬ (100 < (l.length : Int)) := by omega
  simp -dsimp [h1']
  have hfe : factsE l = fe (factE l) l.length := by unfold factsE; rw [if_neg h1]
  refine for_lt l.length (fun k s' => s'.t 0 = .ro l.length (fl factCd l) ∧ s'.t 10 = .ro l.length (fl factCd l) ∧ fe (factE l) k = 0) rfl (by omega) (by simp -dsimp [fe]) (by simp -dsimp) (by simp -dsimp) (fun k s' hk hI hi hn => ?_) (fun s' hI hi hn => ?_)
  · obtain ⟨i0, i1, i3⟩ := hI
    have hg : l[k]? = some l[k] := List.getElem?_eq_getElem hk
    generalize l[k] = x at hg
    have bad : ∀ v, factE l k = v → v ≠ 0 → factsE l = v := fun v h1 h2 => by rw [hfe, fe_stop i3 (by rw [h1]; exact h2) hk, h1]
    unfold k68_1
    simp -dsimp [i0, i1, hi, hn, fact_ia hg, fact_ld hg]
    refine call_bool (name_ok _) ?_
    simp -dsimp
    refine condK_of ?_ ?_ <;> intro q <;> simp -dsimp [q]
    · rw [bad 5 (by unfold factE; rw [hg]; simp at q; simp [q]) (by decide)]
    refine condK_of ?_ ?_ <;> intro q1 <;> simp -dsimp [q1]
    · rw [bad 2 (by unfold factE; rw [hg]; simp at q q1; simp [q]; omega) (by decide)]
    have hx2 : x.2.length ≤ 200 := by simp at q1; omega
    have hwk : IntKind.i64.wrap (k : Int) = k := wrap_nat (by omega)
    have hq : nm x.1 = true := by simpa using q
    have deep : ∀ v j, j < x.2.length → fe (spE x.2) j = 0 → spE x.2 j = v → v ≠ 0 → factsE l = v := fun v j hj h0 h1 h2 => by
      have e : spansE x.2 = v := by unfold spansE; rw [fe_stop h0 (by rw [h1]; exact h2) hj, h1]
      refine bad v ?_ h2
      unfold factE
      rw [hg]
      have : ¬ 200 < x.2.length := by omega
      simp [hq, this, e, h2]
    refine for_lt x.2.length (fun j t => t.t 0 = .ro l.length (fl factCd l) ∧ t.t 10 = .ro l.length (fl factCd l) ∧ t.t 12 = .int .i64 k ∧ t.t 11 = .int .i64 l.length ∧ t.t 3 = .int .i64 k ∧ t.t 4 = .pt s'.nx 0 0 ∧
      t.h s'.nx = some ⟨0, 0, [.str x.1, .ro x.2.length (fl spanCd x.2)], none⟩ ∧ s'.nx < t.nx ∧ t.t 28 = .ro x.2.length (fl spanCd x.2) ∧ fe (spE x.2) j = 0) rfl (by omega) (by simp -dsimp [fe, i0, i1, hi, hn]) (by simp -dsimp) (by simp -dsimp) (fun j t hj hJ hji hjn => ?_) (fun t hJ hji hjn => ?_)
    · obtain ⟨j0, j10, j12, j11, j3, j4, jh, jx, j28, jf⟩ := hJ
      have hgj : x.2[j]? = some x.2[j] := List.getElem?_eq_getElem hj
      generalize x.2[j] = y at hgj
      obtain ⟨z, hz⟩ := prev_get hgj
      have hwj : 0 < j → IntKind.i64.wrap ((j : Int) - 1) = ((j - 1 : Nat) : Int) := fun h => wrap_pred h (by omega)
      have hbp : ∀ p, 0 < j → before x.2 p j = p z := fun p h => before_pos h (hz h)
      have hne : s'.nx ≠ t.nx := by omega
      unfold k68_0
      simp -dsimp [j0, j10, j12, j11, j3, j4, jh, j28, hji, hjn, span_ia hgj, span_ld hgj, hne]
      refine call_bool (inM_ok _) ?_
      simp -dsimp
      refine wantF_of ?_ ?_ <;> intro a1 <;> simp -dsimp [a1]
      · refine call_bool (inM_ok _) ?_
        simp -dsimp
        refine condK_of ?_ ?_ <;> intro a2 <;> simp -dsimp [a2]
        · rw [deep 1 j hj jf (by unfold spE; rw [hgj]; simp at a1 a2; simp [a1, a2]) (by decide)]
        · skip
          refine condK_of ?_ ?_ <;> intro a3 <;> simp -dsimp [a3]
          · rw [deep 13 j hj jf (by unfold spE; rw [hgj]; simp at a1 a2 a3; simp [a1, a2, a3]) (by decide)]
          · refine wantT_of ?_ ?_ <;> intro a4 <;> simp -dsimp [a4, hne, jh, j4]
            · have hp : 0 < j := by simpa using a4
              simp -dsimp [hwj hp, span_ia (hz hp), span_l1 (hz hp)]
              refine condK_of ?_ ?_ <;> intro a5 <;> simp -dsimp [a5]
              · rw [deep 8 j hj jf (by unfold spE; rw [hgj]; simp only [hbp _ hp]; simp at a1 a2 a3 a5; simp [a1, a2, a3, a5]) (by decide)]
              · simp -dsimp [hji, hjn, j0, j10, j12, j11, j3, j4, jh, hne, j28]
                exact ⟨by omega, fe_step jf (by unfold spE; rw [hgj]; simp only [hbp _ hp]; simp at a1 a2 a3 a5; simp [a1, a2, a5]; omega)⟩
            · simp -dsimp [hji, hjn, j0, j10, j12, j11, j3, j4, jh, hne, j28]
              have hp : ¬ 0 < j := by simpa using a4
              exact ⟨by omega, fe_step jf (by unfold spE; rw [hgj]; simp only [before_zero hp]; simp at a1 a2 a3; simp [a1, a2]; omega)⟩
      · rw [deep 1 j hj jf (by unfold spE; rw [hgj]; simp at a1; simp [a1]) (by decide)]
    · obtain ⟨j0, j10, j12, j11, j3, j4, jh, jx, j28, jf⟩ := hJ
      obtain ⟨z, hz⟩ := prev_get hg
      have hwj : 0 < k → IntKind.i64.wrap ((k : Int) - 1) = ((k - 1 : Nat) : Int) := fun h => wrap_pred h (by omega)
      have hbp : ∀ p, 0 < k → before l p k = p z := fun p h => before_pos h (hz h)
      have hsp : spansE x.2 = 0 := jf
      simp at q1
      have q1' : ¬ 200 < x.2.length := by omega
      simp -dsimp [j3]
      refine wantT_of ?_ ?_ <;> intro a4 <;> simp -dsimp [a4, jh, j4, j0, j3]
      · have hp : 0 < k := by simpa using a4
        simp -dsimp [hwj hp, fact_ia (hz hp), fact_l0 (hz hp)]
        refine condK_of ?_ ?_ <;> intro a5 <;> simp -dsimp [a5]
        · rw [bad 8 (by unfold factE; rw [hg]; simp only [hbp _ hp]; simp [hq, q1', hsp]; simpa using a5) (by decide)]
        · simp -dsimp [j0, j10, j12, j11]
          refine fe_step i3 (by unfold factE; rw [hg]; simp only [hbp _ hp]; simp [hq, q1', hsp]; simpa using a5)
      · simp -dsimp [j0, j10, j12, j11]
        have hp : ¬ 0 < k := by simpa using a4
        exact fe_step i3 (by unfold factE; rw [hg]; simp only [before_zero hp]; simp [hq, q1', hsp])
  · simp -dsimp [hfe, hI.2.2]
end Go.Proofs.P6
