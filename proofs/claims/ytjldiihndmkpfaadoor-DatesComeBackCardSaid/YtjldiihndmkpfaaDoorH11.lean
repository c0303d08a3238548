/- Dates are read: the reference, whole. -/
import Derived.Test.YtjldiihndmkpfaaDoorH10
set_option linter.unusedVariables false
set_option linter.unusedSimpArgs false
set_option maxRecDepth 10000
set_option maxHeartbeats 8000000
namespace Go.Proofs.P4
open Go.Ex
theorem dy_10000 : dy 10000 = 3652425 := dy_eq 9999
theorem mo_1 (y : Nat) : mo y 1 = 0 := rfl
theorem readF_eq {l : List Int} {s : List UInt8} (h1 : leapsE l = 0) (h2 : Fm s) : readF l s = readT l (vl (seg s 0 4)) (vl (seg s 5 2)) (vl (seg s 8 2)) (vl (seg s 11 2)) (vl (seg s 14 2)) (vl (seg s 17 2)) (vl (seg s 20 3)) := by
  unfold readF
  rw [if_neg (by simp [h1]), if_neg (fun q => q h2)]
theorem dig_i {s : List UInt8} (h : Fm s) (i n : Nat) (hn : n ≤ 4) (hi : i ≤ 20) (hl : i + n ≤ 23) (hf : ∀ j, j < n → form[i + j]? = some 48) : OkF Tryd.prog 40 [.str s, .int .i64 i, .int .i64 ((i + n : Nat) : Int)] (.int .i64 (vl (seg s i n)), []) :=
  digits_ok hn hi (by rw [h.1]; exact hl) (seg_isD h hf)
theorem ReadDateR_ok (l : List Int) (s : List UInt8) : OkF Tryd.prog 12 [rI l, .str s] (.tup [.int .i64 (readF l s).1, .int .i64 (readF l s).2], []) := by
  refine OkF.W0 hm h12 (of_decide_eq_true rfl) ?_
  unfold c12
  simp -dsimp
  refine call_pure (CheckLeapsR_ok l) (by simp) rfl ?_
  simp -dsimp
  by_cases a0 : leapsE l = 0
  rotate_left
  · have e : readF l s = (0, leapsE l) := by unfold readF; rw [if_pos a0]
    simp -dsimp [a0, e]
  simp -dsimp [a0]
  by_cases hF : Fm s
  rotate_left
  · have e : readF l s = (0, 10) := by unfold readF; rw [if_neg (by simp [a0]), if_pos hF]
    refine call_pure (formed_ok s false (by simp [hF])) (by simp) rfl ?_
    simp -dsimp [e]
  refine call_pure (formed_ok s true (by simp [hF])) (by simp) rfl ?_
  simp -dsimp
  have hl := leaps_good a0
  have k1 := dig_i hF 0 4 (by decide) (by decide) (by decide) (by decide)
  have k2 := dig_i hF 5 2 (by decide) (by decide) (by decide) (by decide)
  have k3 := dig_i hF 8 2 (by decide) (by decide) (by decide) (by decide)
  have k4 := dig_i hF 11 2 (by decide) (by decide) (by decide) (by decide)
  have k5 := dig_i hF 14 2 (by decide) (by decide) (by decide) (by decide)
  have k6 := dig_i hF 17 2 (by decide) (by decide) (by decide) (by decide)
  have k7 := dig_i hF 20 3 (by decide) (by decide) (by decide) (by decide)
  have hp := fm_parts hF
  rw [readF_eq a0 hF]
  generalize vl (seg s 0 4) = y at *
  generalize vl (seg s 5 2) = m at *
  generalize vl (seg s 8 2) = d at *
  generalize vl (seg s 11 2) = hh at *
  generalize vl (seg s 14 2) = mi at *
  generalize vl (seg s 17 2) = sc at *
  generalize vl (seg s 20 3) = ms at *
  obtain ⟨-, hy, hm, hd, hh1, hmi, hsc, hms⟩ := hp
  refine call_pure k1 (by simp) rfl ?_
  simp -dsimp
  refine call_pure k2 (by simp) rfl ?_
  simp -dsimp
  refine call_pure k3 (by simp) rfl ?_
  simp -dsimp
  refine call_pure k4 (by simp) rfl ?_
  simp -dsimp
  refine call_pure k5 (by simp) rfl ?_
  simp -dsimp
  refine call_pure k6 (by simp) rfl ?_
  simp -dsimp
  refine call_pure k7 (by simp) rfl ?_
  simp -dsimp
  clear k1 k2 k3 k4 k5 k6 k7
  have bad : (¬ (1 ≤ m ∧ m ≤ 12) ∨ ¬ (1 ≤ d ∧ d ≤ lg y m) ∨ 23 < hh ∨ 59 < mi ∨ 60 < sc ∨ y < 2000) → readT l y m d hh mi sc ms = (0, 1) := fun h => by unfold readT; rw [if_pos h]
  refine call_bool (within2_ok _ _ _) ?_
  by_cases c1 : 1 ≤ m ∧ m ≤ 12
  rotate_left
  · have e1 : inB (m : Int) 1 12 = false := by simp [inB]; omega
    simp -dsimp [e1, bad (.inl c1)]
  have e1 : inB (m : Int) 1 12 = true := by simp [inB]; omega
  simp -dsimp [e1]
  refine call_int (longR_ok y m) ?_
  simp -dsimp
  refine call_bool (within2_ok _ _ _) ?_
  by_cases c2 : 1 ≤ d ∧ d ≤ lg y m
  rotate_left
  · have e2 : inB (d : Int) 1 (lg y m) = false := by simp [inB]; omega
    simp -dsimp [e2, bad (.inr (.inl c2))]
  have e2 : inB (d : Int) 1 (lg y m) = true := by simp [inB]; omega
  by_cases c3 : 23 < hh
  · have c3' : (23 : Int) < (hh : Int) := by omega
    simp -dsimp [e2, c3', bad (.inr (.inr (.inl c3)))]
  have c3' : ¬ (23 : Int) < (hh : Int) := by omega
  by_cases c4 : 59 < mi
  · have c4' : (59 : Int) < (mi : Int) := by omega
    simp -dsimp [e2, c3', c4', bad (.inr (.inr (.inr (.inl c4))))]
  have c4' : ¬ (59 : Int) < (mi : Int) := by omega
  by_cases c5 : 60 < sc
  · have c5' : (60 : Int) < (sc : Int) := by omega
    simp -dsimp [e2, c3', c4', c5', bad (.inr (.inr (.inr (.inr (.inl c5)))))]
  have c5' : ¬ (60 : Int) < (sc : Int) := by omega
  by_cases c6 : y < 2000
  · have c6' : (y : Int) < 2000 := by omega
    simp -dsimp [e2, c3', c4', c5', c6', bad (.inr (.inr (.inr (.inr (.inr c6)))))]
  have c6' : ¬ (y : Int) < 2000 := by omega
  clear bad
  have w0 : IntKind.i64.wrap ((d : Int) - 1) = ((d - 1 : Nat) : Int) := by rw [w_i64 (by omega) (by omega)]; omega
  generalize hd1 : d - 1 = d1 at *
  simp -dsimp [e2, c3', c4', c5', c6', w0]
  refine LP_cut _ (yearsR_loop (y := y) (d := d1) (by omega) hy (by omega) (by simp -dsimp) ⟨⟨2000, by decide, by omega, by simp -dsimp, by simp -dsimp⟩, fun i hi => rfl⟩) ?_
  rintro ee t ⟨rfl, ⟨k, k0, hky, i15, i14⟩, hk⟩
  obtain rfl : k = y := hky
  have a0 := hk 0 (by decide)
  have a7 := hk 7 (by decide)
  have a8 := hk 8 (by decide)
  have a10 := hk 10 (by decide)
  have a11 := hk 11 (by decide)
  have a12 := hk 12 (by decide)
  have a13 := hk 13 (by decide)
  clear hk
  simp -dsimp at a0 a7 a8 a10 a11 a12 a13
  have hb1 := dy_le 2000 k k0
  have hb2 := dy_le k 10000 (by omega)
  have hb3 := dy_10000
  have hD0 : d1 + (dy k - dy 2000) + mo k m = dayN k m d := by unfold dayN; omega
  generalize hD : d1 + (dy k - dy 2000) = D at *
  have hD5 : D < 4000000 := by omega
  clear hb1 hb2 hb3
  simp -dsimp
  refine LP_cut _ (monthsR_loop (y := k) (m := m) (d := D) c1.1 c1.2 hD5 (by simp -dsimp [a7]) (by simp -dsimp [a8]) ⟨⟨1, by decide, by omega, by simp -dsimp, by rw [mo_1, Nat.add_zero]; simp -dsimp; exact i14⟩, fun i hi => rfl⟩) ?_
  rintro ee t2 ⟨rfl, ⟨m', k1, hkm, i16, j14⟩, hk⟩
  obtain rfl : m' = m := hkm
  have b0 := hk 0 (by decide)
  have b10 := hk 10 (by decide)
  have b11 := hk 11 (by decide)
  have b12 := hk 12 (by decide)
  have b13 := hk 13 (by decide)
  clear hk
  simp -dsimp [a0, a10, a11, a12, a13] at b0 b10 b11 b12 b13
  rw [hD0] at j14
  have hmo := mo_le k m' 13 (by omega)
  have hmo2 := mo_13 k
  have hmo3 := yl_le k
  have hday : dayN k m' d < 5000000 := by omega
  have hr : readT l k m' d hh mi sc ms = if sc = 60 ∧ (hh ≠ 23 ∨ mi ≠ 59 ∨ (dayN k m' d : Int) ∉ l) then (0, 1) else
      if 1000000000000 < st l (dayN k m' d) + (((hh * 60 + mi) * 60 + sc) * 1000 + ms : Nat) then (0, 1) else (st l (dayN k m' d) + (((hh * 60 + mi) * 60 + sc) * 1000 + ms : Nat), 0) := by
    unfold readT
    rw [if_neg (by omega)]
  rw [hr]
  clear hr
  generalize dayN k m' d = D2 at *
  have hs := startR_ok hl (D2 : Int) (by omega) (by omega)
  have hlk := longer_ok l (D2 : Int) hl.most
  have hcl := cnt_le l (D2 : Int)
  have hmost := hl.most
  have hst : st l (D2 : Int) < 500000000000000 ∧ 0 ≤ st l (D2 : Int) := by unfold st; omega
  generalize st l (D2 : Int) = S at *
  have u1 : IntKind.i64.wrap ((hh : Int) * 60) = (hh : Int) * 60 := w_i64 (by omega) (by omega)
  have u2 : IntKind.i64.wrap ((hh : Int) * 60 + (mi : Int)) = (hh : Int) * 60 + (mi : Int) := w_i64 (by omega) (by omega)
  have u3 : IntKind.i64.wrap (((hh : Int) * 60 + (mi : Int)) * 60) = ((hh : Int) * 60 + (mi : Int)) * 60 := w_i64 (by omega) (by omega)
  have u4 : IntKind.i64.wrap (((hh : Int) * 60 + (mi : Int)) * 60 + (sc : Int)) = ((hh : Int) * 60 + (mi : Int)) * 60 + (sc : Int) := w_i64 (by omega) (by omega)
  have u5 : IntKind.i64.wrap ((((hh : Int) * 60 + (mi : Int)) * 60 + (sc : Int)) * 1000) = (((hh : Int) * 60 + (mi : Int)) * 60 + (sc : Int)) * 1000 := w_i64 (by omega) (by omega)
  have u6 : IntKind.i64.wrap (S + (((hh : Int) * 60 + (mi : Int)) * 60 + (sc : Int)) * 1000) = S + (((hh : Int) * 60 + (mi : Int)) * 60 + (sc : Int)) * 1000 := w_i64 (by omega) (by omega)
  have u7 : IntKind.i64.wrap (S + (((hh : Int) * 60 + (mi : Int)) * 60 + (sc : Int)) * 1000 + (ms : Int)) = S + (((hh * 60 + mi) * 60 + sc) * 1000 + ms : Nat) := by rw [w_i64 (by omega) (by omega)]; omega
  generalize S + (((hh * 60 + mi) * 60 + sc) * 1000 + ms : Nat) = T at *
  by_cases g1 : sc = 60
  rotate_left
  · have g1' : ¬ (sc : Int) = 60 := by omega
    have n : ¬ (sc = 60 ∧ (hh ≠ 23 ∨ mi ≠ 59 ∨ (D2 : Int) ∉ l)) := fun q => g1 q.1
    rw [if_neg n]
    clear n
    simp -dsimp [b12, g1', b0, j14]
    refine call_int hs ?_
    by_cases g5 : 1000000000000 < T
    · simp -dsimp [b10, b11, b12, b13, u1, u2, u3, u4, u5, u6, u7, g5]
    · simp -dsimp [b10, b11, b12, b13, u1, u2, u3, u4, u5, u6, u7, g5]
  have g1' : (sc : Int) = 60 := by omega
  by_cases g2 : hh = 23
  rotate_left
  · have g2' : ¬ (hh : Int) = 23 := by omega
    have n : sc = 60 ∧ (hh ≠ 23 ∨ mi ≠ 59 ∨ (D2 : Int) ∉ l) := ⟨g1, .inl g2⟩
    rw [if_pos n]
    clear n
    simp -dsimp [b12, b10, g1', g2']
  have g2' : (hh : Int) = 23 := by omega
  by_cases g3 : mi = 59
  rotate_left
  · have g3' : ¬ (mi : Int) = 59 := by omega
    have n : sc = 60 ∧ (hh ≠ 23 ∨ mi ≠ 59 ∨ (D2 : Int) ∉ l) := ⟨g1, .inr (.inl g3)⟩
    rw [if_pos n]
    clear n
    simp -dsimp [b12, b10, b11, g1', g2', g3']
  have g3' : (mi : Int) = 59 := by omega
  by_cases g4 : (D2 : Int) ∈ l
  rotate_left
  · have n : sc = 60 ∧ (hh ≠ 23 ∨ mi ≠ 59 ∨ (D2 : Int) ∉ l) := ⟨g1, .inr (.inr g4)⟩
    rw [if_pos n]
    clear n
    simp -dsimp [b12, b10, b11, b0, j14, g1', g2', g3']
    refine call_bool hlk ?_
    simp -dsimp [g4]
  have n : ¬ (sc = 60 ∧ (hh ≠ 23 ∨ mi ≠ 59 ∨ (D2 : Int) ∉ l)) := by simp [g1, g2, g3, g4]
  rw [if_neg n]
  clear n
  simp -dsimp [b12, b10, b11, b0, j14, g1', g2', g3']
  refine call_bool hlk ?_
  simp -dsimp [g4, b0, j14]
  refine call_int hs ?_
  by_cases g5 : 1000000000000 < T
  · simp -dsimp [b10, b11, b12, b13, u1, u2, u3, u4, u5, u6, u7, g5]
  · simp -dsimp [b10, b11, b12, b13, u1, u2, u3, u4, u5, u6, u7, g5]
end Go.Proofs.P4

