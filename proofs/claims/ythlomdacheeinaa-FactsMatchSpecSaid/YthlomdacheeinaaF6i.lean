/- The law of facts. -/
import Derived.Test.YthlomdacheeinaaF6h
set_option linter.unusedVariables false
set_option linter.unusedSimpArgs false
set_option maxRecDepth 10000
set_option maxHeartbeats 4000000
namespace Go.Proofs.C6
open Go.Ex
theorem example_ok : OkF Try.prog 14 [] (.bool true, []) := by
  refine OkF.W0 hm h14 (of_decide_eq_true rfl) ?_
  unfold c14
  simp -dsimp [fillS, fillA]
  have e : toRO (upd (upd none0 0 (some ⟨0, 2, [.int .i64 1, .int .i64 3]⟩)) 1 (some ⟨0, 2, [.str [97], .sl 0 0 0 1 (some 1)]⟩)) 8 (.sl 1 0 0 1 (some 1)) = some (.ro 1 [.str [97], .ro 1 [.int .i64 1, .int .i64 3]]) := rfl
  have hi := Is_ok [([97], [(1, 3)])] [97] 2
  have hr : isR [([97], [(1, 3)])] [97] 2 = (true, 0) := by decide
  rw [hr] at hi
  simp -dsimp [e]
  refine call_one hi rfl ?_
  simp -dsimp
theorem FactsMatchSpec (l : List Fact) (s : List UInt8) (n : Int) (c : List Change) (hl : ∀ x ∈ l, x.1.length < 2 ^ 62) (hs : s.length < 2 ^ 62) (hc : ∀ x ∈ c, chOk x) :
    OkF Try.prog 3 [.ro l.length (fl factCd l), .str s, .int .i64 n, .ro c.length (fl chCd c)] (.bool true, []) := by
  refine OkF.W0 hm h3 (of_decide_eq_true rfl) ?_
  unfold c3
  simp -dsimp
  refine call_one (Is_ok l s n) (okRes_of (by simp)) ?_
  simp -dsimp
  refine call_one (IsRef_ok l s n hl hs) (okRes_of (by simp)) ?_
  simp -dsimp
  refine call_int (facts_ok l) ?_
  simp -dsimp
  refine call_int (factsRef_ok l hl) ?_
  simp -dsimp
  refine call_int (changes_ok c hc) ?_
  simp -dsimp
  refine call_int (changesRef_ok c hc) ?_
  simp -dsimp
  refine call_bool example_ok ?_
  simp -dsimp
end Go.Proofs.C6
