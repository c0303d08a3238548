/- The law: texts of banks are as specified, and come back. -/
import Derived.Test.YtjldiihndmkpfaaDoorE11
set_option linter.unusedVariables false
set_option linter.unusedSimpArgs false
set_option maxRecDepth 10000
set_option maxHeartbeats 8000000
namespace Go.Proofs.P4
open Go.Ex
def lnB (b : Bank) (i : Nat) : List UInt8 := Lib.itoa (lAt b.1 i) ++ 32 :: Lib.itoa (lAt b.2 i)
theorem tx_join (b : Bank) : ∀ k, tx b k = joinL (lnB b) 0 k
  | 0 => rfl
  | k + 1 => by
    rw [joinL_snoc, tx, tx_join b k]
    simp [lineT, lnB]
theorem take_at {l : List Int} {k : Nat} (h : k < l.length) : l.take k ++ [lAt l k] = l.take (k + 1) := by
  rw [List.take_add_one, l_at h]
  rfl
theorem stB_line {b : Bank} (g : BankOk b) {i : Nat} (hi : i < b.1.length) : stB (lnB b i) (b.1.take i, b.2.take i) = ((b.1.take (i + 1), b.2.take (i + 1)), true) := by
  have h1 := g.c _ (List.mem_of_getElem? (l_at hi))
  have h2 := g.s _ (List.mem_of_getElem? (l_at (l := b.2) (k := i) (by rw [g.len]; exact hi)))
  unfold inC at h1
  unfold inW at h2
  have e1 := digV_itoa (c := lAt b.1 i) (k := 8) h1.1 (by omega)
  have e2 := digV_itoa (c := lAt b.2 i) (k := 8) h2.1 (by omega)
  have hc : Lib.cut (lnB b i) [32] = (Lib.itoa (lAt b.1 i), Lib.itoa (lAt b.2 i), true) := cut_at (itoa_no (by decide))
  unfold stB pairV
  rw [hc]
  simp only
  rw [e1, e2]
  simp only [Bool.and_self, Bool.true_and]
  rw [take_at hi, take_at (by rw [g.len]; exact hi)]
theorem readF_tx {b : Bank} (g : BankOk b) (hl : ¬ 50000 < (tx b b.1.length).length) : readF (tx b b.1.length) = (b, 0, 0) := by
  have hr : rdG stB ((tx b b.1.length).length + 1) (tx b b.1.length) 1 ([], []) = (b, 0) := by
    have := rdG_join (st := stB) (L := lnB b) (B := fun i => (b.1.take i, b.2.take i)) b.1.length 0 ((joinL (lnB b) 0 b.1.length).length + 1) 1 (by omega) fun i _ hi => ⟨by
      unfold lnB
      intro q
      rw [List.mem_append, List.mem_cons] at q
      rcases q with q | q | q
      · exact itoa_no (by decide) q
      · revert q; decide
      · exact itoa_no (by decide) q, stB_line g (by omega)⟩
    rw [tx_join]
    simp only [List.take_zero, Nat.zero_add] at this
    rw [this]
    obtain ⟨c, s⟩ := b
    have e := g.len
    simp only at e
    simp only [List.take_length]
    rw [← e, List.take_length]
  unfold readF
  rw [if_neg hl, hr, bank_mk g]
  simp
theorem MemoryTextsMatchSpec (b : Bank) : OkF Tryd.prog 7 [bkV b] (.bool true, []) := by
  refine OkF.W0 hm h7 (of_decide_eq_true rfl) ?_
  unfold c7
  have k1 := Text_ok b
  have k2 := TextR_ok b
  simp -dsimp
  by_cases hb : bankE b = 0
  rotate_left
  · have e : textF b = ([], bankE b) := by unfold textF; rw [if_pos hb]
    rw [e] at k1 k2
    refine call_pure k1 (by simp) (by simp [V.pure, V.pureL]) ?_
    simp -dsimp
    refine call_pure k2 (by simp) (by simp [V.pure, V.pureL]) ?_
    simp -dsimp
    refine call_pure awake_ok (by simp) rfl ?_
    simp -dsimp [hb]
  have g := bank_good hb
  have e : textF b = if 50000 < (tx b b.1.length).length then ([], 2) else (tx b b.1.length, 0) := by unfold textF; rw [if_neg (by simpa using hb)]
  by_cases c : 50000 < (tx b b.1.length).length
  · rw [if_pos c] at e
    rw [e] at k1 k2
    refine call_pure k1 (by simp) (by simp [V.pure, V.pureL]) ?_
    simp -dsimp
    refine call_pure k2 (by simp) (by simp [V.pure, V.pureL]) ?_
    simp -dsimp
    refine call_pure awake_ok (by simp) rfl ?_
    simp -dsimp
  rw [if_neg c] at e
  rw [e] at k1 k2
  have k3 := ReadText_ok (tx b b.1.length)
  rw [readF_tx g c] at k3
  generalize tx b b.1.length = T at *
  have hm := g.most
  have hq := g.len
  refine call_pure k1 (by simp) (by simp [V.pure, V.pureL]) ?_
  simp -dsimp
  refine call_pure k2 (by simp) (by simp [V.pure, V.pureL]) ?_
  simp -dsimp
  refine call_pure awake_ok (by simp) rfl ?_
  simp -dsimp
  refine call_pure k3 (by simp) (by simp [V.pure, V.pureL]) ?_
  simp -dsimp
  refine call_bool (Same_ok b b (by omega) (by omega)) ?_
  simp -dsimp
end Go.Proofs.P4

