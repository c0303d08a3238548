/- Dates are read: the reference. -/
import Derived.Test.YtjldiihndmkpfaaDoorH9
set_option linter.unusedVariables false
set_option linter.unusedSimpArgs false
set_option maxRecDepth 10000
set_option maxHeartbeats 8000000
namespace Go.Proofs.P4
open Go.Ex
theorem seg_isD {s : List UInt8} {i n : Nat} (h : Fm s) (hi : ∀ j, j < n → form[i + j]? = some 48) : ∀ b ∈ seg s i n, isD b := fun b hb => by
  obtain ⟨j, hj⟩ := List.getElem?_of_mem hb
  unfold seg at hj
  rw [List.getElem?_take] at hj
  split at hj
  · rename_i q
    rw [List.getElem?_drop] at hj
    have := h.2 (i + j) 48 b (hi j q) hj
    unfold okc at this
    rwa [if_pos rfl] at this
  · cases hj
structure YR (y d : Nat) (t0 : St) (r : Nat) (t : St) : Prop where
  ex : ∃ k, 2000 ≤ k ∧ k + r = y ∧ t.t 15 = .int .i64 k ∧ t.t 14 = .int .i64 ((d + (dy k - dy 2000) : Nat) : Int)
  k : ∀ i, i ∉ [14, 15, 69, 70, 71, 72, 73, 74, 75, 76, 77, 78, 79] → t.t i = t0.t i
theorem yearsR_loop {y d : Nat} (hy : 2000 ≤ y) (hy2 : y < 10000) (hd : d < 100) {t0 : St} (i7 : t0.t 7 = .int .i64 y) (hI : YR y d t0 (y - 2000) t0) :
    LP Tryd.prog l12_0 (fun e t => e = .exit 0 ∧ YR y d t0 0 t) t0 ⟨⟩ ⟨⟩ := by
  refine loop_left (y - 2000) (YR y d t0) hI (fun t hI => ?_) (fun r t hr hI => ?_)
  · obtain ⟨⟨k, k0, k1, i15, i14⟩, hk⟩ := hI
    have j7 := hk 7 (by decide)
    rw [i7] at j7
    have hn : ¬ (k : Int) < (y : Int) := by omega
    generalize hD : d + (dy k - dy 2000) = D at *
    unfold l12_0
    simp -dsimp [i15, j7, hn]
    exact ⟨⟨k, k0, k1, by simp -dsimp [i15], by simp -dsimp [i14, hD]⟩, fun i hi => by
      simp only [List.mem_cons, List.not_mem_nil, or_false, not_or] at hi
      simp -dsimp [hi, hk i (by simp [hi])]⟩
  · obtain ⟨⟨k, k0, k1, i15, i14⟩, hk⟩ := hI
    have j7 := hk 7 (by decide)
    rw [i7] at j7
    have hn : (k : Int) < (y : Int) := by omega
    have lk := leapR_ok k
    have hs : dy (k + 1) = dy k + yl k := rfl
    have hy := yl_le k
    have hb := dy_le 2000 k k0
    have hb2 := dy_le k 10000 (by omega)
    have hb3 : dy 10000 = 3652425 := dy_eq 9999
    have hyl : yl k = if lp k then 366 else 365 := rfl
    generalize hD : d + (dy k - dy 2000) = D at *
    have hD2 : d + (dy (k + 1) - dy 2000) = D + yl k := by omega
    have hD3 : D < 4000000 := by omega
    have w1 : IntKind.i64.wrap ((D : Int) + 365) = ((D + 365 : Nat) : Int) := by rw [w_i64 (by omega) (by omega)]; omega
    have w2 : IntKind.i64.wrap (((D + 365 : Nat) : Int) + 1) = ((D + 366 : Nat) : Int) := by rw [w_i64 (by omega) (by omega)]; omega
    have w3 : IntKind.i64.wrap ((k : Int) + 1) = ((k + 1 : Nat) : Int) := by rw [w_i64 (by omega) (by omega)]; omega
    generalize hk1 : k + 1 = k' at *
    generalize h365 : D + 365 = D5 at *
    generalize h366 : D + 366 = D6 at *
    unfold l12_0
    have fin : ∀ t' : St, t'.t 15 = .int .i64 k' → t'.t 14 = .int .i64 ((D + yl k : Nat) : Int) → (∀ i, i ∉ [14, 15, 69, 70, 71, 72, 73, 74, 75, 76, 77, 78, 79] → t'.t i = t.t i) → YR y d t0 r t' := fun t' a b c =>
      ⟨⟨k', by omega, by omega, a, by rw [hD2]; exact b⟩, fun i hi => (c i hi).trans (hk i hi)⟩
    by_cases q : lp k
    · have e : D + yl k = D6 := by rw [hyl, if_pos q]; exact h366
      rw [e] at fin
      simp -dsimp [i15, j7, hn, i14, w1]
      refine call_bool lk ?_
      simp -dsimp [q, w2, w3, i15]
      exact fin _ (by simp -dsimp) (by simp -dsimp) fun i hi => by
        simp only [List.mem_cons, List.not_mem_nil, or_false, not_or] at hi
        simp -dsimp [hi]
    · have e : D + yl k = D5 := by rw [hyl, if_neg q]; exact h365
      rw [e] at fin
      simp -dsimp [i15, j7, hn, i14, w1]
      refine call_bool lk ?_
      simp -dsimp [q, w2, w3, i15]
      exact fin _ (by simp -dsimp) (by simp -dsimp) fun i hi => by
        simp only [List.mem_cons, List.not_mem_nil, or_false, not_or] at hi
        simp -dsimp [hi]
structure MR (y m d : Nat) (t0 : St) (r : Nat) (t : St) : Prop where
  ex : ∃ k, 1 ≤ k ∧ k + r = m ∧ t.t 16 = .int .i64 k ∧ t.t 14 = .int .i64 ((d + mo y k : Nat) : Int)
  k : ∀ i, i ∉ [14, 16, 80, 81, 82, 83, 84, 85, 86, 87, 88, 89] → t.t i = t0.t i
theorem monthsR_loop {y m d : Nat} (hm : 1 ≤ m) (hm2 : m ≤ 12) (hd : d < 4000000) {t0 : St} (i7 : t0.t 7 = .int .i64 y) (i8 : t0.t 8 = .int .i64 m) (hI : MR y m d t0 (m - 1) t0) :
    LP Tryd.prog l12_1 (fun e t => e = .exit 2 ∧ MR y m d t0 0 t) t0 ⟨⟩ ⟨⟩ := by
  refine loop_left (m - 1) (MR y m d t0) hI (fun t hI => ?_) (fun r t hr hI => ?_)
  · obtain ⟨⟨k, k0, k1, i16, i14⟩, hk⟩ := hI
    have j8 := hk 8 (by decide)
    rw [i8] at j8
    have hn : ¬ (k : Int) < (m : Int) := by omega
    generalize hD : d + mo y k = D at *
    unfold l12_1
    simp -dsimp [i16, j8, hn]
    exact ⟨⟨k, k0, k1, by simp -dsimp [i16], by simp -dsimp [i14, hD]⟩, fun i hi => by
      simp only [List.mem_cons, List.not_mem_nil, or_false, not_or] at hi
      simp -dsimp [hi, hk i (by simp [hi])]⟩
  · obtain ⟨⟨k, k0, k1, i16, i14⟩, hk⟩ := hI
    have j7 := hk 7 (by decide)
    have j8 := hk 8 (by decide)
    rw [i7] at j7
    rw [i8] at j8
    have hn : (k : Int) < (m : Int) := by omega
    have lk := longR_ok y k
    have hs := mo_succ (y := y) k0
    have hg := lg_pos y k
    have hb := mo_le y k 13 (by omega)
    have hb2 := mo_13 y
    have hb3 := yl_le y
    generalize hD : d + mo y k = D at *
    have hD2 : d + mo y (k + 1) = D + lg y k := by omega
    have w1 : IntKind.i64.wrap ((D : Int) + (lg y k : Int)) = ((D + lg y k : Nat) : Int) := by rw [w_i64 (by omega) (by omega)]; omega
    have w3 : IntKind.i64.wrap ((k : Int) + 1) = ((k + 1 : Nat) : Int) := by rw [w_i64 (by omega) (by omega)]; omega
    generalize lg y k = g at *
    generalize hk1 : k + 1 = k' at *
    generalize hDg : D + g = D5 at *
    unfold l12_1
    simp -dsimp [i16, j7, j8, hn, i14]
    refine call_int lk ?_
    simp -dsimp [w1, w3, i16]
    exact ⟨⟨k', by omega, by omega, by simp -dsimp, by simp -dsimp [hD2]⟩, fun i hi => by
      simp only [List.mem_cons, List.not_mem_nil, or_false, not_or] at hi
      simp -dsimp [hi, hk i (by simp [hi])]⟩
end Go.Proofs.P4

