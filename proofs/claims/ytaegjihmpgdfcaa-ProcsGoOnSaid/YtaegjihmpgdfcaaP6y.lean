/- The law of procedures. -/
import Derived.Test.YtaegjihmpgdfcaaP6x
set_option linter.unusedVariables false
set_option linter.unusedSimpArgs false
set_option maxRecDepth 10000
set_option maxHeartbeats 4000000
namespace Go.Proofs.P6
open Go.Ex
theorem awake_ok : OkF Try.prog 24 [] (.bool true, []) := by
  refine OkF.W0 hm h24 (of_decide_eq_true rfl) ?_
  unfold c24
  simp -dsimp [fillS, fillA]
  have e : toRO (upd (upd none0 0 (some ⟨0, 2, [.int .i64 1, .int .i64 3], none⟩)) 1 (some ⟨0, 2, [.str [97], .sl 0 0 0 1 (some 1)], none⟩)) 8 (.sl 1 0 0 1 (some 1)) = some (.ro 1 [.str [97], .ro 1 [.int .i64 1, .int .i64 3]]) := rfl
  have hi := Is_ok [([97], [(1, 3)])] [97] 2
  have hr : isR [([97], [(1, 3)])] [97] 2 = (true, 0) := by decide
  rw [hr] at hi
  simp -dsimp [e]
  refine call_one hi rfl ?_
  simp -dsimp
theorem ProcsMatchSpec (p : List Prc) (s : List UInt8) (l : List Place) (hok : ∀ x ∈ p, procOk x) (hl : p.length < 2 ^ 62) :
    OkF Try.prog 3 [.ro p.length (fl procCd p), .str s, .ro l.length (fl placeCd l)] (.bool true, []) := by
  have hs := start_len p s
  have e62 := Go.Ex.e62
  refine OkF.W0 hm h3 (of_decide_eq_true rfl) ?_
  unfold c3
  simp -dsimp
  refine call_one (Start_ok p s hok hl) (okRes_of (by simp)) ?_
  simp -dsimp
  refine call_one (StartRef_ok p s hok hl) (okRes_of (by simp)) ?_
  simp -dsimp
  refine call_int (CheckProcs_ok p hok) ?_
  simp -dsimp
  refine call_int (CheckProcsRef_ok p hok) ?_
  simp -dsimp
  refine call_bool (equalPlace_ok _ _ (by omega)) ?_
  simp -dsimp
  refine call_int (CheckPlaces_ok p l hok hl) ?_
  simp -dsimp
  refine call_int (CheckPlacesRef_ok p l hok hl) ?_
  simp -dsimp
  refine call_bool awake_ok ?_
  simp -dsimp
end Go.Proofs.P6
