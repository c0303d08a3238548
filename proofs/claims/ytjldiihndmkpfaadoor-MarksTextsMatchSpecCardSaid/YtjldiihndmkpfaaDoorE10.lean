/- The texts of banks, the reference. -/
import Derived.Test.YtjldiihndmkpfaaDoorE9
set_option linter.unusedVariables false
set_option linter.unusedSimpArgs false
set_option maxRecDepth 10000
set_option maxHeartbeats 8000000
namespace Go.Proofs.P4
open Go.Ex
structure TRI (b : Bank) (k : Nat) (t : St) : Prop where
  i1 : t.t 1 = .pt 0 0 0
  i14 : t.t 14 = rI b.1
  h0 : t.h 0 = some ⟨0, 0, [rI b.1, rI b.2], none⟩
  ac : t.t 5 = .str (tx b k)
theorem TextR_ok (b : Bank) : OkF Tryd.prog 22 [bkV b] (.tup [.str (textF b).1, .int .i64 (textF b).2], []) := by
  refine OkF.W0 hm h22 (of_decide_eq_true rfl) ?_
  unfold c22
  have e62 := Go.Ex.e62
  simp -dsimp
  refine call_pure (CheckBankR_ok b) (by simp) rfl ?_
  simp -dsimp
  by_cases hb : bankE b = 0
  rotate_left
  · have e : textF b = ([], bankE b) := by unfold textF; rw [if_pos hb]
    simp -dsimp [hb, e]
  have g := bank_good hb
  have e : textF b = if 50000 < (tx b b.1.length).length then ([], 2) else (tx b b.1.length, 0) := by unfold textF; rw [if_neg (by simpa using hb)]
  have hlen := tx_len b.1.length (bank_in g)
  have hmost := g.most
  have heq := g.len
  simp -dsimp [hb]
  refine for_lt b.1.length (TRI b) rfl (by omega) ⟨by simp -dsimp, by simp -dsimp, by simp -dsimp, by simp -dsimp [tx]⟩ (by simp -dsimp) (by simp -dsimp) (fun k t hk hI hi hn => ?_) (fun t hI hi hn => ?_)
  · obtain ⟨i1, i14, h0, ac⟩ := hI
    obtain ⟨⟨a1, a2⟩, b1, b2⟩ := bank_in g k hk
    have ga := l_at hk
    have gb := l_at (l := b.2) (k := k) (by omega)
    have hl := tx_len k (fun i hi => bank_in g i (by omega))
    have hS : tx b (k + 1) = tx b k ++ (Lib.itoa (lAt b.1 k) ++ [32] ++ Lib.itoa (lAt b.2 k) ++ [10]) := by simp [tx, lineT]
    have hla := Lib.itoa_length_le _ a1 a2
    have hlb := Lib.itoa_length_le _ b1 b2
    have ia := Itoa_ok (lAt b.1 k) a1 a2
    have ib := Itoa_ok (lAt b.2 k) b1 b2
    generalize lAt b.1 k = x at *
    generalize lAt b.2 k = y at *
    generalize tx b k = T at *
    unfold k22_0
    generalize Lib.itoa x = sx at *
    generalize Lib.itoa y = sy at *
    have u1 : ¬ (4611686018427387904 : Int) < (sx.length : Int) + 1 := by omega
    have u3 : ¬ (4611686018427387904 : Int) < (sx.length : Int) + 1 + (sy.length : Int) := by omega
    have u4 : ¬ (4611686018427387904 : Int) < (sx.length : Int) + ((sy.length : Int) + 1) + 1 := by omega
    have u5 : ¬ (4611686018427387904 : Int) < (T.length : Int) + ((sx.length : Int) + ((sy.length : Int) + 1 + 1)) := by omega
    have u2 : ¬ (4611686018427387904 : Int) < (sx.length : Int) + ((sy.length : Int) + 1) := by omega
    simp -dsimp [i14, hi, i_ia ga, i_ld ga]
    refine call_pure ia (by simp) rfl ?_
    simp -dsimp [i1, h0, u1, u2, hi, i_ia gb, i_ld gb]
    refine call_pure ib (by simp) rfl ?_
    simp -dsimp [hi, hn, u2, u3, u4, u5, ac]
    refine ⟨by simp -dsimp [i1], by simp -dsimp [i14], by simp -dsimp [h0], ?_⟩
    simp -dsimp
    rw [hS]
    simp
  · obtain ⟨i1, i14, h0, ac⟩ := hI
    generalize tx b b.1.length = T at *
    simp -dsimp [ac]
    by_cases c : 50000 < T.length
    · have c' : (50000 : Int) < (T.length : Int) := by omega
      rw [if_pos c] at e
      simp -dsimp [c', e]
    · have c' : ¬ (50000 : Int) < (T.length : Int) := by omega
      rw [if_neg c] at e
      simp -dsimp [c', e]
      simp [ac, exp1]
end Go.Proofs.P4

