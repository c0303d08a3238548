/- Dates are written: the reference. -/
import Derived.Test.YtjldiihndmkpfaaDoorH8
set_option linter.unusedVariables false
set_option linter.unusedSimpArgs false
set_option maxRecDepth 10000
set_option maxHeartbeats 8000000
namespace Go.Proofs.P4
open Go.Ex
theorem dayR_loop {l : List Int} {time : Int} (hl : LeapsOk l) (h0 : 0 ≤ time) {t0 : St} {d : Nat} (hI : DL l time t0 d t0) :
    LP Tryd.prog l10_0 (fun e t => e = .exit 0 ∧ DL l time t0 (dayOf l time) t) t0 ⟨⟩ ⟨⟩ := by
  refine loop_left d (DL l time t0) hI (fun t hI => ?_) (fun m t hm hI => ?_)
  · obtain ⟨e, b, i0, i1, i7, ih, inx⟩ := hI
    have hs := startR_ok hl 0 (by decide) (by decide)
    rw [st_zero hl] at hs
    unfold l10_0
    have hc : ¬ time < 0 := by omega
    simp -dsimp [i0, i1, i7]
    refine call_int hs ?_
    simp -dsimp [i1, hc]
    rw [dayF_zero] at e
    rw [← e]
    exact ⟨by rw [e]; simp [← e, dayF_zero], by omega, by simp -dsimp [i0], by simp -dsimp [i1], by simp -dsimp [i7], by simp -dsimp [ih], by simp -dsimp [inx]⟩
  · obtain ⟨e, b, i0, i1, i7, ih, inx⟩ := hI
    have hs := startR_ok hl ((m + 1 : Nat) : Int) (by omega) (by omega)
    have w1 : IntKind.i64.wrap (((m + 1 : Nat) : Int) - 1) = (m : Int) := by rw [w_i64 (by omega) (by omega)]; omega
    unfold l10_0
    by_cases q : time < st l ((m + 1 : Nat) : Int)
    · rw [dayF_down q] at e
      generalize hk : m + 1 = k at *
      simp -dsimp [i0, i1, i7]
      refine call_int hs ?_
      simp -dsimp [i1, i7, q, w1]
      exact ⟨e, by omega, by simp -dsimp [i0], by simp -dsimp [i1], by simp -dsimp, by simp -dsimp [ih], by simp -dsimp [inx]⟩
    · have e' := e
      rw [dayF_stay q] at e'
      rw [← e']
      generalize hk : m + 1 = k at *
      simp -dsimp [i0, i1, i7]
      refine call_int hs ?_
      simp -dsimp [i1, i7, q, w1]
      exact ⟨e, by omega, by simp -dsimp [i0], by simp -dsimp [i1], by simp -dsimp [i7], by simp -dsimp [ih], by simp -dsimp [inx]⟩
structure RML (N : Nat) (t0 : St) (r : Nat) (t : St) : Prop where
  ex : ∃ y m, 2000 ≤ y ∧ 1 ≤ m ∧ m ≤ 12 ∧ dy y + mo y m + r = N ∧ t.t 9 = .int .i64 y ∧ t.t 10 = .int .i64 m
  i7 : t.t 11 = .int .i64 r
  i8 : t.t 8 = t0.t 8
theorem monthR_loop {N : Nat} (hN : N < 767010) {t0 : St} {r : Nat} (hI : RML N t0 r t0) :
    LP Tryd.prog l10_1 (fun e t => e = .exit 2 ∧ ∃ r y m, Vd (y, m, r) ∧ dn (y, m, r) = N ∧ t.t 9 = .int .i64 y ∧ t.t 10 = .int .i64 m ∧ t.t 11 = .int .i64 r ∧ t.t 8 = t0.t 8) t0 ⟨⟩ ⟨⟩ := by
  refine loop_dec (RML N t0) r hI (fun n t hI => ?_)
  obtain ⟨⟨y, m, y0, m0, m1, e, i9, i10⟩, i11, i8⟩ := hI
  have hs := mo_succ (y := y) m0
  have k1 := longR_ok y m
  have hg := lg_pos y m
  have y1 : y < 2100 := by
    rcases Nat.lt_or_ge y 2100 with w | w
    · exact w
    · have := dy_le 2100 y w
      have := dy_2100
      omega
  unfold l10_1
  by_cases q : lg y m ≤ n
  · have q' : (lg y m : Int) ≤ (n : Int) := by omega
    by_cases hm : m < 12
    · generalize lg y m = d at *
      have w1 : IntKind.i64.wrap ((n : Int) - (d : Int)) = ((n - d : Nat) : Int) := by rw [w_i64 (by omega) (by omega)]; omega
      have w2 : IntKind.i64.wrap ((m : Int) + 1) = ((m + 1 : Nat) : Int) := by rw [w_i64 (by omega) (by omega)]; omega
      have w3 : ¬ (12 : Int) < ((m + 1 : Nat) : Int) := by omega
      generalize hm1 : m + 1 = z at *
      simp -dsimp [i11, i9, i10]
      refine call_int k1 ?_
      simp -dsimp [q', i11, i9, i10]
      refine call_int k1 ?_
      simp -dsimp [w1, w2, w3, i10]
      exact ⟨n - d, by omega, ⟨y, z, y0, by omega, by omega, by omega, by simp -dsimp [i9], by simp -dsimp⟩, by simp -dsimp, by simp -dsimp [i8]⟩
    · have hm2 : m = 12 := by omega
      subst hm2
      have hy : mo y (12 + 1) = yl y := mo_13 y
      have hdy : dy (y + 1) = dy y + yl y := rfl
      generalize lg y 12 = d at *
      have w1 : IntKind.i64.wrap ((n : Int) - (d : Int)) = ((n - d : Nat) : Int) := by rw [w_i64 (by omega) (by omega)]; omega
      have w2 : IntKind.i64.wrap 13 = 13 := by decide
      have w4 : IntKind.i64.wrap ((y : Int) + 1) = ((y + 1 : Nat) : Int) := by rw [w_i64 (by omega) (by omega)]; omega
      generalize hy1 : y + 1 = z at *
      simp -dsimp [i11, i9, i10]
      refine call_int k1 ?_
      simp -dsimp [q', i11, i9, i10]
      refine call_int k1 ?_
      simp -dsimp [w1, w2, w4, i10, i9]
      exact ⟨n - d, by omega, ⟨z, 1, by omega, by decide, by decide, by simp [mo]; omega, by simp -dsimp, by simp -dsimp⟩, by simp -dsimp, by simp -dsimp [i8]⟩
  · have q' : ¬ (lg y m : Int) ≤ (n : Int) := by omega
    simp -dsimp [i11, i9, i10]
    refine call_int k1 ?_
    simp -dsimp [q', i11, i9, i10]
    exact ⟨n, y, m, ⟨m0, m1, by simp only; omega⟩, e, rfl, rfl, rfl, i8⟩
theorem DateR_ok (l : List Int) (time : Int) : OkF Tryd.prog 10 [rI l, .int .i64 time] (.tup [.str (dateF l time).1, .int .i64 (dateF l time).2], []) := by
  refine OkF.W0 hm h10 (of_decide_eq_true rfl) ?_
  unfold c10
  simp -dsimp
  refine call_pure (CheckLeapsR_ok l) (by simp) rfl ?_
  simp -dsimp
  by_cases a0 : leapsE l = 0
  rotate_left
  · have e : dateF l time = ([], leapsE l) := by unfold dateF; rw [if_pos a0]
    simp -dsimp [a0, e]
  simp -dsimp [a0]
  refine call_pure (within2_ok _ _ _) (by simp) rfl ?_
  by_cases a1 : inB time 0 1000000000000 = true
  rotate_left
  · have e : dateF l time = ([], 1) := by unfold dateF; rw [if_neg (by simp [a0]), if_pos (by simpa using a1)]
    simp -dsimp [a0, e, a1]
  have e := dateF_ok a0 a1
  simp -dsimp [a1]
  rw [e]
  have hl := leaps_good a0
  simp only [inB, Bool.and_eq_true, decide_eq_true_eq] at a1
  have hA := at_of hl a1.1 a1.2
  have hT : dateT l time = dtx (civ (dayOf l time + dy 2000)).1 (civ (dayOf l time + dy 2000)).2.1 ((civ (dayOf l time + dy 2000)).2.2 + 1) (hms ((time - st l (dayOf l time)).toNat / 1000)).1 (hms ((time - st l (dayOf l time)).toNat / 1000)).2.1 (hms ((time - st l (dayOf l time)).toNat / 1000)).2.2 ((time - st l (dayOf l time)).toNat % 1000) := rfl
  obtain ⟨d0, hd0⟩ := Int.eq_ofNat_of_zero_le (show 0 ≤ time / 86400000 by omega)
  have hdiv : time.tdiv 86400000 = (d0 : Int) := by rw [Int.tdiv_eq_ediv_of_nonneg a1.1]; exact hd0
  have hw0 : IntKind.i64.wrap (d0 : Int) = (d0 : Int) := w_i64 (by omega) (by omega)
  have hday : dayF l time d0 = dayOf l time := by unfold dayOf; rw [hd0]; rfl
  simp -dsimp [hdiv, hw0]
  refine LP_cut _ (dayR_loop hl a1.1 (d := d0) ⟨hday, by omega, by simp -dsimp, by simp -dsimp, by simp -dsimp, rfl, rfl⟩) ?_
  rintro ee t ⟨rfl, -, -, i0, i1, i7, ih, inx⟩
  clear ih inx
  clear hday hdiv hw0 hd0
  have hb := hA
  rw [hT]
  clear hT e
  generalize dayOf l time = day at *
  generalize hN : day + dy 2000 = N at *
  generalize hr : (time - st l day).toNat = r at *
  obtain ⟨vd, en, y0, y1, et, er⟩ := hb
  have hday : day ≤ 36525 := by
    have := (dn_lt vd).1
    have := dy_le (((civ N).1) + 1) 2100 (by omega)
    have := dy_2000
    have := dy_2100
    omega
  have hs := startR_ok hl (day : Int) (by omega) (by omega)
  have hr2 : r < 86401000 := by rcases er with w | w <;> omega
  have w1 : IntKind.i64.wrap (time - st l (day : Int)) = (r : Int) := by rw [w_i64 (by omega) (by omega)]; omega
  simp -dsimp [i0, i1, i7]
  refine call_int hs ?_
  simp -dsimp [w1, i7]
  have hN2 : N < 767010 := by
    have := (dn_lt vd).1
    have := dy_le (((civ N).1) + 1) 2100 (by omega)
    have := dy_2100
    omega
  refine LP_cut _ (monthR_loop (N := N) hN2 (r := day) ⟨⟨2000, 1, by decide, by decide, by decide, by simp [mo]; omega, by simp -dsimp, by simp -dsimp⟩, by simp -dsimp [i7], rfl⟩) ?_
  rintro ee t3 ⟨rfl, d, y, m, pv, pe, l9, l11, l7, l8⟩
  simp -dsimp at l8
  have hp : civ N = (y, m, d) := civ_eq pv pe
  rw [hp] at y0 y1 ⊢
  obtain ⟨m0, m1, mr⟩ := pv
  simp only at m0 m1 mr y0 y1
  have hg := lg_pos y m
  have q4 : ∀ n : Nat, n < 10000 → OkF Tryd.prog 36 [.int .i64 n, .int .i64 4] (.str (fx 4 n), []) := fun n h => paddedR_ok n 3 h (by decide)
  have q2 : ∀ n : Nat, n < 100 → OkF Tryd.prog 36 [.int .i64 n, .int .i64 2] (.str (fx 2 n), []) := fun n h => paddedR_ok n 1 h (by decide)
  have q3 : ∀ n : Nat, n < 1000 → OkF Tryd.prog 36 [.int .i64 n, .int .i64 3] (.str (fx 3 n), []) := fun n h => paddedR_ok n 2 h (by decide)
  clear i0 i1 i7 hN hA en hs w1 pe hp vd hr et
  simp only
  have hd : d + 1 < 100 := by omega
  have v7 : IntKind.i64.wrap ((d : Int) + 1) = ((d + 1 : Nat) : Int) := by rw [w_i64 (by omega) (by omega)]; omega
  generalize d + 1 = d1 at *
  have v1 : IntKind.i64.wrap ((r : Int) / 1000) = ((r / 1000 : Nat) : Int) := by rw [w_i64 (by omega) (by omega)]; omega
  have v6 : (r : Int).tmod 1000 = ((r % 1000 : Nat) : Int) := tm_nat (k := 1000)
  have hms3 : r % 1000 < 1000 := by omega
  have hs4 : r / 1000 < 86401 := by omega
  generalize r / 1000 = s at *
  generalize r % 1000 = ms at *
  have v2 : IntKind.i64.wrap ((s : Int) / 3600) = ((s / 3600 : Nat) : Int) := by rw [w_i64 (by omega) (by omega)]; omega
  have v3 : IntKind.i64.wrap ((s : Int) / 60) = ((s / 60 : Nat) : Int) := by rw [w_i64 (by omega) (by omega)]; omega
  have v4 : ((s / 60 : Nat) : Int).tmod 60 = ((s / 60 % 60 : Nat) : Int) := tm_nat (k := 60)
  have v5 : (s : Int).tmod 60 = ((s % 60 : Nat) : Int) := tm_nat (k := 60)
  have hh : hms s = if 86400 ≤ s then (23, 59, 60) else (s / 3600, s / 60 % 60, s % 60) := rfl
  have b1 : s / 3600 < 100 := by omega
  have b2 : s / 60 % 60 < 100 := by omega
  have b3 : s % 60 < 100 := by omega
  rw [hh]
  generalize s / 3600 = hr at *
  generalize s / 60 % 60 = mi at *
  generalize s / 60 = sm at *
  generalize s % 60 = sc at *
  clear hh
  by_cases c : 86400 ≤ s
  · have c' : (86400 : Int) ≤ (s : Int) := by omega
    rw [if_pos c]
    simp -dsimp [l7, l8, l9, l11, v1, v2, v3, v4, v5, v6, v7, c']
    refine call_pure (q4 y (by omega)) (by simp) (by simp [V.pure, V.pureL]) ?_
    simp -dsimp [fx_len, l11]
    refine call_pure (q2 m (by omega)) (by simp) (by simp [V.pure, V.pureL]) ?_
    simp -dsimp [fx_len, l7, v7]
    refine call_pure (q2 d1 (by omega)) (by simp) (by simp [V.pure, V.pureL]) ?_
    simp -dsimp [fx_len]
    refine call_pure (q2 23 (by decide)) (by simp) (by simp [V.pure, V.pureL]) ?_
    simp -dsimp [fx_len]
    refine call_pure (q2 59 (by decide)) (by simp) (by simp [V.pure, V.pureL]) ?_
    simp -dsimp [fx_len]
    refine call_pure (q2 60 (by decide)) (by simp) (by simp [V.pure, V.pureL]) ?_
    simp -dsimp [fx_len, l8, v6]
    refine call_pure (q3 ms hms3) (by simp) (by simp [V.pure, V.pureL]) ?_
    simp -dsimp [fx_len]
    simp [dtx]
  · have c' : ¬ (86400 : Int) ≤ (s : Int) := by omega
    rw [if_neg c]
    simp -dsimp [l7, l8, l9, l11, v1, v2, v3, v4, v5, v6, v7, c', c]
    refine call_pure (q4 y (by omega)) (by simp) (by simp [V.pure, V.pureL]) ?_
    simp -dsimp [fx_len, l11]
    refine call_pure (q2 m (by omega)) (by simp) (by simp [V.pure, V.pureL]) ?_
    simp -dsimp [fx_len, l7, v7]
    refine call_pure (q2 d1 (by omega)) (by simp) (by simp [V.pure, V.pureL]) ?_
    simp -dsimp [fx_len]
    refine call_pure (q2 hr (by omega)) (by simp) (by simp [V.pure, V.pureL]) ?_
    simp -dsimp [fx_len]
    refine call_pure (q2 mi (by omega)) (by simp) (by simp [V.pure, V.pureL]) ?_
    simp -dsimp [fx_len]
    refine call_pure (q2 sc (by omega)) (by simp) (by simp [V.pure, V.pureL]) ?_
    simp -dsimp [fx_len, l8, v6]
    refine call_pure (q3 ms hms3) (by simp) (by simp [V.pure, V.pureL]) ?_
    simp -dsimp [fx_len]
    simp [dtx, c]
end Go.Proofs.P4

