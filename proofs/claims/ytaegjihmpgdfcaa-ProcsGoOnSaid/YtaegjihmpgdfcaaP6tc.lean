/- The laws of procedures that go: both go alike. -/
import Derived.Test.YtaegjihmpgdfcaaP6tb
import Derived.Test.YtaegjihmpgdfcaaP6y
set_option linter.unusedVariables false
set_option linter.unusedSimpArgs false
set_option maxRecDepth 10000
set_option maxHeartbeats 4000000
namespace Go.Proofs.P6
open Go.Ex
theorem equalDid_ok (l m : List Did) (hl : l.length < 2 ^ 62) : OkF Try.prog 27 [.ro l.length (fl didCd l), .ro m.length (fl didCd m)] (.bool (decide (l = m)), []) :=
  equal_ok (d := didCd) (esz := 2) hm h27 rfl (by decide) (fun a b => by
    obtain ⟨a1, a2⟩ := a
    obtain ⟨b1, b2⟩ := b
    show seqA true [0, 2] (.agg [.int .i64 a1, .str a2]) (.agg [.int .i64 b1, .str b2]) = _
    simp [seqA, tagOf, eqCells]
    rw [Bool.eq_iff_iff]
    simp) l m hl
theorem runs_small {p : List Prc} (hg : GP p) {f : List Fact} {until' : Int} {m : M} {o : Out} (h : Runs p f until' m o) : Ok p until' m → o.1.length ≤ 5000 ∧ o.2.1.length < 2 ^ 62 := by
  have e62 := Go.Ex.e62
  induction h with
  | fin h1 => intro hO; exact ⟨hO.did, by simp⟩
  | @stop m a x m' h1 h2 =>
    intro hO
    have hx : PF p x := hO.pl x (by rw [h1]; simp)
    unfold stepR at h2
    split at h2
    · cases h2
    rename_i s hgs
    split at h2
    · rename_i hw
      rcases waited_ok hg hO h1 hgs hx hw (f := f) with ⟨y, t, e, _⟩ | e
      · rw [e] at h2; cases h2
      · rw [e] at h2
        injection h2 with h2
        subst h2
        have := hO.did
        have h3 := hO.len
        have h4 := hO.all
        rw [h1] at h3
        simp only [List.length_append, List.length_singleton] at h3
        refine ⟨this, ?_⟩
        simp only [M.set, List.length_append, List.length_singleton]
        omega
    · split at h2
      · cases h2
      split at h2
      · cases h2
      split at h2 <;> cases h2
  | err h1 h2 => intro _; exact ⟨by simp, by simp⟩
  | go h1 h2 h3 ih => intro hO; exact ih (hO.step hg h1 h2).1
theorem goE_small (p : List Prc) (s : List Place) (f : List Fact) (from' until' : Int) : (goE p s f from' until').1.length ≤ 5000 ∧ (goE p s f from' until').2.1.length < 2 ^ 62 := by
  by_cases h : goErr p s f from' until' = 0
  · obtain ⟨h1, h2, h3, _⟩ := ok0 h
    exact runs_small h1 (goE_run h) h3
  · rw [goE_err rfl h]
    exact ⟨by simp, by simp⟩
theorem ProcsGoMatchSpec (p : List Prc) (s : List Place) (f : List Fact) (from' until' : Int) (hok : ∀ x ∈ p, procOk x) (hl : p.length < 2 ^ 62) (hfo : ∀ x ∈ f, x.1.length < 2 ^ 62) :
    OkF Try.prog 5 [.ro p.length (fl procCd p), .ro s.length (fl placeCd s), .ro f.length (fl factCd f), .int .i64 from', .int .i64 until'] (.bool true, []) := by
  have e62 := Go.Ex.e62
  have hsm := goE_small p s f from' until'
  have h1 := Go_ok p s f from' until' hok hl
  have h2 := GoRef_ok p s f from' until' hok hl hfo
  simp only [outV] at h1 h2
  refine OkF.W0 hm h5 (of_decide_eq_true rfl) ?_
  unfold c5
  simp -dsimp
  refine call_one h1 (okRes_of (by simp)) ?_
  simp -dsimp
  refine call_one h2 (okRes_of (by simp)) ?_
  simp -dsimp
  refine call_bool (equalDid_ok _ _ (by omega)) ?_
  simp -dsimp
  refine call_bool (equalPlace_ok _ _ hsm.2) ?_
  simp -dsimp
  refine call_bool awake_ok ?_
  simp -dsimp
end Go.Proofs.P6
