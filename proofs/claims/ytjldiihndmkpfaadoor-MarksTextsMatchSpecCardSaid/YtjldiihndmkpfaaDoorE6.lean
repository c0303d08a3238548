/- The law: banks are read as specified. -/
import Derived.Test.YtjldiihndmkpfaaDoorE5
set_option linter.unusedVariables false
set_option linter.unusedSimpArgs false
set_option maxRecDepth 10000
set_option maxHeartbeats 8000000
namespace Go.Proofs.P4
open Go.Ex
theorem readF_len (text : List UInt8) : (readF text).1.1.length < 2 ^ 62 ∧ (readF text).1.2.length < 2 ^ 62 := by
  unfold readF
  split
  · simp
  split
  · simp
  split
  · simp
  · rename_i q
    have g := bank_good (by simpa using q)
    have := g.most
    have := g.len
    simp only
    exact ⟨by omega, by omega⟩
theorem MemoryReadsMatchSpec (text : List UInt8) : OkF Tryd.prog 8 [.str text] (.bool true, []) := by
  refine OkF.W0 hm h8 (of_decide_eq_true rfl) ?_
  unfold c8
  have k1 := ReadText_ok text
  have k2 := ReadTextR_ok text
  obtain ⟨l1, l2⟩ := readF_len text
  generalize readF text = r at *
  obtain ⟨⟨c, s⟩, n, f⟩ := r
  simp only at *
  simp -dsimp
  refine call_pure k1 (by simp) (by simp [V.pure, V.pureL]) ?_
  simp -dsimp
  refine call_pure k2 (by simp) (by simp [V.pure, V.pureL]) ?_
  simp -dsimp
  refine call_bool (Same_ok (c, s) (c, s) l1 l2) ?_
  simp -dsimp
  refine call_pure awake_ok (by simp) rfl ?_
  simp -dsimp
end Go.Proofs.P4

