/- Padded numbers; the form of a date. -/
import Derived.Test.YtjldiihndmkpfaaDoorH5
import Derived.Test.YtjldiihndmkpfaaDoorE1
set_option linter.unusedVariables false
set_option linter.unusedSimpArgs false
set_option maxRecDepth 10000
set_option maxHeartbeats 8000000
namespace Go.Proofs.P4
open Go.Ex
theorem Repeat_ok (s : List UInt8) (c : Nat) (hs : s.length * c ≤ 140737488355328) (hc : c ≤ 9223372036854775807) : OkF Tryd.prog 62 [.str s, .int .i64 c] (.str (Lib.repeatL s c), []) := by
  refine OkF.lib fun φ S w vs hG hv => ?_
  obtain ⟨x, y, rfl, hx, hy⟩ := reps2 hv
  have := rep_str hx
  subst this
  cases hy
  refine (Tryd.strings_Repeat ⟨s.toArray⟩ c w hc (by simpa [ByteArray.size] using hs)).mono fun e w' he => ?_
  obtain ⟨rfl, hb⟩ := he
  exact ⟨_, rfl, hb, rep_str_mk _⟩
theorem rep_one (b : UInt8) : ∀ c, Lib.repeatL [b] c = List.replicate c b
  | 0 => by simp [Lib.repeatL]
  | c + 1 => by rw [Lib.repeatL, rep_one b c, List.replicate_succ]; rfl
theorem dd_len {w n : Nat} (h : n < 10 ^ (w + 1)) : (Lib.decDigits n).length ≤ w + 1 := by
  induction w generalizing n with
  | zero => rw [Lib.decDigits_one (by simpa using h)]; simp
  | succ k ih =>
    by_cases q : n < 10
    · rw [Lib.decDigits_one q]; simp
    · rw [Lib.decDigits, dif_neg q]
      have := ih (n := n / 10) (by rw [Nat.pow_succ] at h; omega)
      simp only [List.length_append, List.length_singleton]
      omega
theorem padded_ok (n w : Nat) (hn : n < 10 ^ (w + 1)) (hw : w < 10) : OkF Tryd.prog 32 [.int .i64 n, .int .i64 ((w + 1 : Nat) : Int)] (.str (fx (w + 1) n), []) := by
  refine OkF.W0 hm h32 (of_decide_eq_true rfl) ?_
  unfold c32
  have hb : 10 ^ (w + 1) ≤ 10 ^ 10 := Nat.pow_le_pow_right (by decide) (by omega)
  have k1 := Itoa_ok (n : Int) (by omega) (by omega)
  rw [Lib.itoa_nonneg] at k1
  have hl := dd_len hn
  have hp := pad_fx w n hn
  unfold pad at hp
  have k2 := Repeat_ok [48] (w + 1 - (Lib.decDigits n).length) (by simp; omega) (by omega)
  rw [rep_one] at k2
  rw [← hp]
  generalize Lib.decDigits n = s at *
  generalize hw1 : w + 1 = w1 at *
  generalize hc : w1 - s.length = c at *
  have hz : (List.replicate c (48 : UInt8)).length = c := List.length_replicate
  generalize List.replicate c (48 : UInt8) = z at *
  have e1 : IntKind.i64.wrap ((w1 : Int) - (s.length : Int)) = (c : Int) := by rw [w_i64 (by omega) (by omega)]; omega
  have e2 : max (0 : Int) (c : Int) = (c : Int) := by omega
  have e3 : ¬ (4611686018427387904 : Int) < (z.length : Int) + (s.length : Int) := by omega
  have e4 : ¬ (4611686018427387904 : Int) < (c : Int) + (s.length : Int) := by omega
  simp -dsimp
  refine call_pure k1 (by simp) (by simp [V.pure, V.pureL]) ?_
  simp -dsimp [e1, e2]
  refine call_pure k2 (by simp) (by simp [V.pure, V.pureL]) ?_
  simp -dsimp [e3, e4]
theorem paddedR_ok (n w : Nat) (hn : n < 10 ^ (w + 1)) (hw : w < 10) : OkF Tryd.prog 36 [.int .i64 n, .int .i64 ((w + 1 : Nat) : Int)] (.str (fx (w + 1) n), []) := by
  refine OkF.W0 hm h36 (of_decide_eq_true rfl) ?_
  unfold c36
  have hb : 10 ^ (w + 1) ≤ 10 ^ 10 := Nat.pow_le_pow_right (by decide) (by omega)
  have k1 := Itoa_ok (n : Int) (by omega) (by omega)
  rw [Lib.itoa_nonneg] at k1
  have hl := dd_len hn
  have hp := pad_fx w n hn
  unfold pad at hp
  rw [← hp]
  generalize Lib.decDigits n = s at *
  generalize hw1 : w + 1 = w1 at *
  simp -dsimp
  refine call_pure k1 (by simp) (by simp [V.pure, V.pureL]) ?_
  simp -dsimp
  refine loop_left (w1 - s.length) (fun m t => m + s.length ≤ w1 ∧ t.t 1 = .int .i64 w1 ∧ t.h = none0 ∧ t.t 5 = .str (List.replicate (w1 - s.length - m) 48 ++ s)) ⟨by omega, by simp -dsimp, by simp -dsimp, by simp -dsimp⟩ (fun t hI => ?_) (fun m t hm hI => ?_)
  · obtain ⟨h0, i1, ih, i5⟩ := hI
    have e1 : (List.replicate (w1 - s.length - 0) (48 : UInt8)).length = w1 - s.length := List.length_replicate
    rw [Nat.sub_zero] at *
    generalize List.replicate (w1 - s.length) (48 : UInt8) = z at *
    unfold l36_0
    have e2 : ¬ ((z.length : Int) + (s.length : Int) < (w1 : Int)) := by omega
    simp -dsimp [i1, i5, e2]
  · obtain ⟨h0, i1, ih, i5⟩ := hI
    have e1 : (List.replicate (w1 - s.length - (m + 1)) (48 : UInt8)).length = w1 - s.length - (m + 1) := List.length_replicate
    have e0 : List.replicate (w1 - s.length - m) (48 : UInt8) = 48 :: List.replicate (w1 - s.length - (m + 1)) (48 : UInt8) := by
      rw [← List.replicate_succ]; congr 1; omega
    generalize List.replicate (w1 - s.length - (m + 1)) (48 : UInt8) = z at *
    unfold l36_0
    have e2 : ((z.length : Int) + (s.length : Int) < (w1 : Int)) := by omega
    have e3 : ¬ (4611686018427387904 : Int) < 1 + ((z.length : Int) + (s.length : Int)) := by omega
    have e4 : ¬ (4611686018427387904 : Int) < (z.length : Int) + (s.length : Int) + 1 := by omega
    simp -dsimp [i1, i5, e2, e3, e4]
    exact ⟨by omega, ih, by rw [e0]; rfl⟩
end Go.Proofs.P4

