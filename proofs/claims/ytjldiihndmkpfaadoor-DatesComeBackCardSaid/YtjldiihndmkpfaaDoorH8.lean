/- Dates are written: our side. -/
import Derived.Test.YtjldiihndmkpfaaDoorH7
set_option linter.unusedVariables false
set_option linter.unusedSimpArgs false
set_option maxRecDepth 10000
set_option maxHeartbeats 8000000
namespace Go.Proofs.P4
open Go.Ex
theorem td_nat {y k : Nat} : (y : Int).tdiv k = ((y / k : Nat) : Int) := by rw [Int.tdiv_eq_ediv_of_nonneg (by omega)]; omega
theorem dayF_zero (l : List Int) (time : Int) : dayF l time 0 = 0 := rfl
theorem dayF_down {l : List Int} {time : Int} {d : Nat} (h : time < st l ((d + 1 : Nat) : Int)) : dayF l time (d + 1) = dayF l time d := by rw [dayF, if_pos h]
theorem dayF_stay {l : List Int} {time : Int} {d : Nat} (h : ¬ time < st l ((d + 1 : Nat) : Int)) : dayF l time (d + 1) = d + 1 := by rw [dayF, if_neg h]
structure DL (l : List Int) (time : Int) (t0 : St) (d : Nat) (t : St) : Prop where
  e : dayF l time d = dayOf l time
  b : d ≤ 11600
  i0 : t.t 0 = rI l
  i1 : t.t 1 = .int .i64 time
  i7 : t.t 7 = .int .i64 d
  h : t.h = t0.h
  nx : t.nx = t0.nx
theorem day_loop {l : List Int} {time : Int} (hl : LeapsOk l) (h0 : 0 ≤ time) {t0 : St} {d : Nat} (hI : DL l time t0 d t0) :
    LP Tryd.prog l9_0 (fun e t => e = .exit 0 ∧ DL l time t0 (dayOf l time) t) t0 ⟨⟩ ⟨⟩ := by
  refine loop_left d (DL l time t0) hI (fun t hI => ?_) (fun m t hm hI => ?_)
  · obtain ⟨e, b, i0, i1, i7, ih, inx⟩ := hI
    have hs := start_ok hl 0 (by decide) (by decide)
    rw [st_zero hl] at hs
    unfold l9_0
    have hc : ¬ time < 0 := by omega
    simp -dsimp [i0, i1, i7]
    refine call_int hs ?_
    simp -dsimp [i1, hc]
    rw [dayF_zero] at e
    rw [← e]
    exact ⟨by rw [e]; simp [← e, dayF_zero], by omega, by simp -dsimp [i0], by simp -dsimp [i1], by simp -dsimp [i7], by simp -dsimp [ih], by simp -dsimp [inx]⟩
  · obtain ⟨e, b, i0, i1, i7, ih, inx⟩ := hI
    have hs := start_ok hl ((m + 1 : Nat) : Int) (by omega) (by omega)
    have w1 : IntKind.i64.wrap (((m + 1 : Nat) : Int) - 1) = (m : Int) := by rw [w_i64 (by omega) (by omega)]; omega
    unfold l9_0
    by_cases q : time < st l ((m + 1 : Nat) : Int)
    · rw [dayF_down q] at e
      generalize hk : m + 1 = k at *
      simp -dsimp [i0, i1, i7]
      refine call_int hs ?_
      simp -dsimp [i1, i7, q, w1]
      exact ⟨e, by omega, by simp -dsimp [i0], by simp -dsimp [i1], by simp -dsimp, by simp -dsimp [ih], by simp -dsimp [inx]⟩
    · have e' := e
      rw [dayF_stay q] at e'
      rw [← e']
      generalize hk : m + 1 = k at *
      simp -dsimp [i0, i1, i7]
      refine call_int hs ?_
      simp -dsimp [i1, i7, q, w1]
      exact ⟨e, by omega, by simp -dsimp [i0], by simp -dsimp [i1], by simp -dsimp [i7], by simp -dsimp [ih], by simp -dsimp [inx]⟩
structure YL (N : Nat) (t0 : St) (r : Nat) (t : St) : Prop where
  ex : ∃ y, 2000 ≤ y ∧ y < 2100 ∧ r + dy y = N ∧ t.t 9 = .int .i64 y ∧ t.t 10 = .int .i64 (yl y)
  i7 : t.t 7 = .int .i64 r
  i8 : t.t 8 = t0.t 8
  h : t.h = t0.h
  nx : t.nx = t0.nx
theorem yl_le (y : Nat) : 365 ≤ yl y ∧ yl y ≤ 366 := by unfold yl; split <;> omega
theorem year_loop {N : Nat} (hN : N < 767010) {t0 : St} {r : Nat} (hI : YL N t0 r t0) :
    LP Tryd.prog l9_1 (fun e t => e = .exit 2 ∧ ∃ r y, 2000 ≤ y ∧ y < 2100 ∧ r + dy y = N ∧ r < yl y ∧ t.t 9 = .int .i64 y ∧ t.t 7 = .int .i64 r ∧ t.t 8 = t0.t 8 ∧ t.h = t0.h ∧ t.nx = t0.nx) t0 ⟨⟩ ⟨⟩ := by
  refine loop_dec (YL N t0) r hI (fun n t hI => ?_)
  obtain ⟨⟨y, y0, y1, e, i9, i10⟩, i7, i8, ih, inx⟩ := hI
  have hy := yl_le y
  have hs : dy (y + 1) = dy y + yl y := rfl
  have hs2 : dy (y + 1 + 1) = dy (y + 1) + yl (y + 1) := rfl
  have k1 := days_ok (y + 1) (by omega)
  have k2 := days_ok (y + 1 + 1) (by omega)
  unfold l9_1
  by_cases q : yl y ≤ n
  · have q' : (yl y : Int) ≤ (n : Int) := by omega
    have hy2 : y + 1 < 2100 := by
      rcases Nat.lt_or_ge (y + 1) 2100 with w | w
      · exact w
      · have := dy_le 2100 (y + 1) w
        have := dy_2100
        omega
    have hyl2 := yl_le (y + 1)
    have hb := dy_le (y + 1) 2100 (by omega)
    have hb2 := dy_le (y + 1 + 1) 2100 (by omega)
    have h21 := dy_2100
    generalize dy y = a at *
    generalize hyb : dy (y + 1) = b at *
    generalize dy (y + 1 + 1) = c at *
    generalize yl y = d at *
    have w1 : IntKind.i64.wrap ((n : Int) - (d : Int)) = ((n - d : Nat) : Int) := by rw [w_i64 (by omega) (by omega)]; omega
    have w2 : IntKind.i64.wrap ((y : Int) + 1) = ((y + 1 : Nat) : Int) := by rw [w_i64 (by omega) (by omega)]; omega
    have w4 : IntKind.i64.wrap (((y + 1 : Nat) : Int) + 1) = ((y + 1 + 1 : Nat) : Int) := by rw [w_i64 (by omega) (by omega)]; omega
    have w3 : IntKind.i64.wrap ((c : Int) - (b : Int)) = ((yl (y + 1) : Nat) : Int) := by rw [w_i64 (by omega) (by omega)]; omega
    generalize hy1 : y + 1 = z at *
    generalize hz1 : z + 1 = z1 at *
    generalize hyg : yl z = g at *
    simp -dsimp [i7, i9, i10, q', w1, w2, w4]
    refine call_int k2 ?_
    simp -dsimp
    refine call_int k1 ?_
    simp -dsimp [w3]
    exact ⟨n - d, by omega, ⟨z, by omega, by omega, by rw [hyb]; omega, by simp -dsimp, by simp -dsimp [hyg]⟩, by simp -dsimp, by simp -dsimp [i8], by simp -dsimp [ih], by simp -dsimp [inx]⟩
  · have q' : ¬ (yl y : Int) ≤ (n : Int) := by omega
    simp -dsimp [i7, i9, i10, q']
    exact ⟨n, y, y0, y1, e, by omega, by simp -dsimp [i9], by simp -dsimp [i7], by simp -dsimp [i8], by simp -dsimp [ih], by simp -dsimp [inx]⟩
structure ML (R y : Nat) (t0 : St) (r : Nat) (t : St) : Prop where
  ex : ∃ m, 1 ≤ m ∧ m ≤ 12 ∧ mo y m + r = R ∧ t.t 11 = .int .i64 m
  i9 : t.t 9 = .int .i64 y
  i7 : t.t 7 = .int .i64 r
  i8 : t.t 8 = t0.t 8
  h : t.h = t0.h
  nx : t.nx = t0.nx
theorem month_loop {R y : Nat} (hR : R < yl y) {t0 : St} {r : Nat} (hI : ML R y t0 r t0) :
    LP Tryd.prog l9_2 (fun e t => e = .exit 4 ∧ ∃ r m, 1 ≤ m ∧ m ≤ 12 ∧ mo y m + r = R ∧ r < lg y m ∧ t.t 11 = .int .i64 m ∧ t.t 9 = .int .i64 y ∧ t.t 7 = .int .i64 r ∧ t.t 8 = t0.t 8 ∧ t.h = t0.h ∧ t.nx = t0.nx) t0 ⟨⟩ ⟨⟩ := by
  refine loop_dec (ML R y t0) r hI (fun n t hI => ?_)
  obtain ⟨⟨m, m0, m1, e, i11⟩, i9, i7, i8, ih, inx⟩ := hI
  have hy := yl_le y
  have hs := mo_succ (y := y) m0
  have k1 := long_ok y m
  have hg := lg_pos y m
  unfold l9_2
  by_cases q : lg y m ≤ n
  · have q' : (lg y m : Int) ≤ (n : Int) := by omega
    have hm : m < 12 := by
      rcases Nat.lt_or_ge m 12 with w | w
      · exact w
      · have : m = 12 := by omega
        subst this
        have : mo y (12 + 1) = yl y := mo_13 y
        omega
    generalize lg y m = d at *
    have w1 : IntKind.i64.wrap ((n : Int) - (d : Int)) = ((n - d : Nat) : Int) := by rw [w_i64 (by omega) (by omega)]; omega
    have w2 : IntKind.i64.wrap ((m : Int) + 1) = ((m + 1 : Nat) : Int) := by rw [w_i64 (by omega) (by omega)]; omega
    generalize hm1 : m + 1 = z at *
    simp -dsimp [i7, i9, i11]
    refine call_int k1 ?_
    simp -dsimp [q', i7, i9, i11]
    refine call_int k1 ?_
    simp -dsimp [w1, w2, i11]
    exact ⟨n - d, by omega, ⟨z, by omega, by omega, by omega, by simp -dsimp⟩, by simp -dsimp [i9], by simp -dsimp, by simp -dsimp [i8], by simp -dsimp [ih], by simp -dsimp [inx]⟩
  · have q' : ¬ (lg y m : Int) ≤ (n : Int) := by omega
    simp -dsimp [i7, i9, i11]
    refine call_int k1 ?_
    simp -dsimp [q', i7, i9, i11]
    exact ⟨n, m, m0, m1, e, by omega, rfl, rfl, i8, ih, inx⟩
theorem toRO2 {h : Hp} {id : Nat} {x y : Int} : toRO (upd h id (some ⟨0, 1, [.int .i64 x, .int .i64 y], none⟩)) 8 (.sl id 0 0 2 (some 2)) = some (rI [x, y]) := by
  simp [toRO, cellRO, upd, fl]
theorem dateF_ok {l : List Int} {time : Int} (h1 : leapsE l = 0) (h2 : inB time 0 1000000000000 = true) : dateF l time = (dateT l time, 0) := by
  unfold dateF
  rw [if_neg (by simp [h1]), if_neg (by simp [h2])]
theorem Date_ok (l : List Int) (time : Int) : OkF Tryd.prog 9 [rI l, .int .i64 time] (.tup [.str (dateF l time).1, .int .i64 (dateF l time).2], []) := by
  refine OkF.W0 hm h9 (of_decide_eq_true rfl) ?_
  unfold c9
  have hf := First_ok [leapsE l, rngE time 0 1000000000000] (by simp)
  have hF : firstE [leapsE l, rngE time 0 1000000000000] = if leapsE l ≠ 0 then leapsE l else rngE time 0 1000000000000 := by
    simp only [firstE]
    by_cases a0 : leapsE l = 0 <;> by_cases a1 : rngE time 0 1000000000000 = 0 <;> simp [a0, a1]
  rw [hF] at hf
  simp -dsimp
  refine call_pure (CheckLeaps_ok l) (by simp) rfl ?_
  simp -dsimp
  refine call_pure (Range_ok _ _ _) (by simp) rfl ?_
  simp -dsimp [fillA, toRO2]
  refine call_int hf ?_
  simp -dsimp
  by_cases a0 : leapsE l = 0
  rotate_left
  · have e : dateF l time = ([], leapsE l) := by unfold dateF; rw [if_pos a0]
    simp -dsimp [a0, e]
  by_cases a1 : inB time 0 1000000000000 = true
  rotate_left
  · have e : dateF l time = ([], 1) := by unfold dateF; rw [if_neg (by simp [a0]), if_pos (by simpa using a1)]
    have e1 : rngE time 0 1000000000000 = 1 := by unfold rngE; rw [if_pos (by simpa using a1)]
    simp -dsimp [a0, e, e1]
  have e := dateF_ok a0 a1
  have e1 : rngE time 0 1000000000000 = 0 := by unfold rngE; rw [if_neg (by simp [a1])]
  rw [e]
  have hl := leaps_good a0
  simp only [inB, Bool.and_eq_true, decide_eq_true_eq] at a1
  have hA := at_of hl a1.1 a1.2
  have hT : dateT l time = dtx (civ (dayOf l time + dy 2000)).1 (civ (dayOf l time + dy 2000)).2.1 ((civ (dayOf l time + dy 2000)).2.2 + 1) (hms ((time - st l (dayOf l time)).toNat / 1000)).1 (hms ((time - st l (dayOf l time)).toNat / 1000)).2.1 (hms ((time - st l (dayOf l time)).toNat / 1000)).2.2 ((time - st l (dayOf l time)).toNat % 1000) := rfl
  obtain ⟨d0, hd0⟩ := Int.eq_ofNat_of_zero_le (show 0 ≤ time / 86400000 by omega)
  have hdiv : time.tdiv 86400000 = (d0 : Int) := by rw [Int.tdiv_eq_ediv_of_nonneg a1.1]; exact hd0
  have hw0 : IntKind.i64.wrap (d0 : Int) = (d0 : Int) := w_i64 (by omega) (by omega)
  have hday : dayF l time d0 = dayOf l time := by unfold dayOf; rw [hd0]; rfl
  simp -dsimp [a0, e1, hdiv, hw0]
  refine LP_cut _ (day_loop hl a1.1 (d := d0) ⟨hday, by omega, by simp -dsimp, by simp -dsimp, by simp -dsimp, rfl, rfl⟩) ?_
  rintro ee t ⟨rfl, -, -, i0, i1, i7, ih, inx⟩
  clear ih inx
  clear hday hdiv hw0 hd0
  have hb := hA
  rw [hT]
  clear hT e
  generalize dayOf l time = day at *
  generalize hN : day + dy 2000 = N at *
  generalize hr : (time - st l day).toNat = r at *
  obtain ⟨vd, en, y0, y1, et, er⟩ := hb
  have hday : day ≤ 36525 := by
    have := (dn_lt vd).1
    have := dy_le (((civ N).1) + 1) 2100 (by omega)
    have := dy_2000
    have := dy_2100
    omega
  have hs := start_ok hl (day : Int) (by omega) (by omega)
  have hr2 : r < 86401000 := by rcases er with w | w <;> omega
  have w1 : IntKind.i64.wrap (time - st l (day : Int)) = (r : Int) := by rw [w_i64 (by omega) (by omega)]; omega
  have w2 : IntKind.i64.wrap ((2000 : Int) + 1) = 2001 := by decide
  have k1 := days_ok 2000 (by decide)
  have k2 := days_ok 2001 (by decide)
  have e1 : dy 2001 = dy 2000 + yl 2000 := rfl
  have e2 : yl 2000 = 366 := by decide
  rw [e1, e2, dy_2000] at k2
  rw [dy_2000] at k1
  have w3 : IntKind.i64.wrap (((730485 + 366 : Nat) : Int) - ((730485 : Nat) : Int)) = 366 := by decide
  simp -dsimp [i0, i1, i7]
  refine call_int hs ?_
  simp -dsimp [w1]
  refine call_int k2 ?_
  simp -dsimp
  refine call_int k1 ?_
  simp -dsimp
  have hN2 : N < 767010 := by
    have := (dn_lt vd).1
    have := dy_le (((civ N).1) + 1) 2100 (by omega)
    have := dy_2100
    omega
  refine LP_cut _ (year_loop (N := N) hN2 (r := day) ⟨⟨2000, by decide, by decide, hN, by simp -dsimp, by simp -dsimp [e2]; decide⟩, by simp -dsimp [i7], rfl, rfl, rfl⟩) ?_
  rintro ee t2 ⟨rfl, r1, y, p0, p1, pe, pr, j9, j7, j8, -, -⟩
  simp -dsimp at j8
  simp -dsimp [j9, j7, j8]
  refine LP_cut _ (month_loop (R := r1) (y := y) pr (r := r1) ⟨⟨1, by decide, by decide, by simp [mo], by simp -dsimp⟩, by simp -dsimp [j9], by simp -dsimp [j7], rfl, rfl, rfl⟩) ?_
  rintro ee t3 ⟨rfl, d, m, m0, m1, me, mr, l11, l9, l7, l8, -, -⟩
  simp -dsimp [j8] at l8
  have hp : civ N = (y, m, d) := civ_eq ⟨m0, m1, mr⟩ (by simp only [dn]; omega)
  rw [hp]
  have hg := lg_pos y m
  have q4 : ∀ n : Nat, n < 10000 → OkF Tryd.prog 32 [.int .i64 n, .int .i64 4] (.str (fx 4 n), []) := fun n h => padded_ok n 3 h (by decide)
  have q2 : ∀ n : Nat, n < 100 → OkF Tryd.prog 32 [.int .i64 n, .int .i64 2] (.str (fx 2 n), []) := fun n h => padded_ok n 1 h (by decide)
  have q3 : ∀ n : Nat, n < 1000 → OkF Tryd.prog 32 [.int .i64 n, .int .i64 3] (.str (fx 3 n), []) := fun n h => padded_ok n 2 h (by decide)
  clear hf hF e1 i0 i1 i7 hN hA en hs w1 w2 k1 k2 e2 w3 pe pr j9 j7 j8 me hp vd hr et
  simp only
  have hd : d + 1 < 100 := by omega
  have v7 : IntKind.i64.wrap ((d : Int) + 1) = ((d + 1 : Nat) : Int) := by rw [w_i64 (by omega) (by omega)]; omega
  generalize d + 1 = d1 at *
  have v1 : IntKind.i64.wrap ((r : Int) / 1000) = ((r / 1000 : Nat) : Int) := by rw [w_i64 (by omega) (by omega)]; omega
  have v6 : (r : Int).tmod 1000 = ((r % 1000 : Nat) : Int) := tm_nat (k := 1000)
  have hms3 : r % 1000 < 1000 := by omega
  have hs4 : r / 1000 < 86401 := by omega
  generalize r / 1000 = s at *
  generalize r % 1000 = ms at *
  have v2 : IntKind.i64.wrap ((s : Int) / 3600) = ((s / 3600 : Nat) : Int) := by rw [w_i64 (by omega) (by omega)]; omega
  have v3 : IntKind.i64.wrap ((s : Int) / 60) = ((s / 60 : Nat) : Int) := by rw [w_i64 (by omega) (by omega)]; omega
  have v4 : ((s / 60 : Nat) : Int).tmod 60 = ((s / 60 % 60 : Nat) : Int) := tm_nat (k := 60)
  have v5 : (s : Int).tmod 60 = ((s % 60 : Nat) : Int) := tm_nat (k := 60)
  have hh : hms s = if s / 3600 = 24 then (23, 59, 60) else (s / 3600, s / 60 % 60, s % 60) := by
    unfold hms
    by_cases c : 86400 ≤ s
    · rw [if_pos c, if_pos (by omega)]
    · rw [if_neg c, if_neg (by omega)]
  have b1 : s / 3600 < 100 := by omega
  have b2 : s / 60 % 60 < 100 := by omega
  have b3 : s % 60 < 100 := by omega
  rw [hh]
  generalize s / 3600 = hr at *
  generalize s / 60 % 60 = mi at *
  generalize s / 60 = sm at *
  generalize s % 60 = sc at *
  clear hh
  by_cases c : hr = 24
  · subst c
    simp -dsimp [l7, l8, l9, l11, v1, v2, v3, v4, v5, v6, v7]
    refine call_pure (q4 y (by omega)) (by simp) (by simp [V.pure, V.pureL]) ?_
    simp -dsimp [fx_len, l11]
    refine call_pure (q2 m (by omega)) (by simp) (by simp [V.pure, V.pureL]) ?_
    simp -dsimp [fx_len, l7, v7]
    refine call_pure (q2 d1 (by omega)) (by simp) (by simp [V.pure, V.pureL]) ?_
    simp -dsimp [fx_len]
    refine call_pure (q2 23 (by decide)) (by simp) (by simp [V.pure, V.pureL]) ?_
    simp -dsimp [fx_len]
    refine call_pure (q2 59 (by decide)) (by simp) (by simp [V.pure, V.pureL]) ?_
    simp -dsimp [fx_len]
    refine call_pure (q2 60 (by decide)) (by simp) (by simp [V.pure, V.pureL]) ?_
    simp -dsimp [fx_len, l8, v6]
    refine call_pure (q3 ms hms3) (by simp) (by simp [V.pure, V.pureL]) ?_
    simp -dsimp [fx_len]
    simp [dtx]
  · have c' : ¬ (hr : Int) = 24 := by omega
    simp -dsimp [l7, l8, l9, l11, v1, v2, v3, v4, v5, v6, v7, c', c]
    refine call_pure (q4 y (by omega)) (by simp) (by simp [V.pure, V.pureL]) ?_
    simp -dsimp [fx_len, l11]
    refine call_pure (q2 m (by omega)) (by simp) (by simp [V.pure, V.pureL]) ?_
    simp -dsimp [fx_len, l7, v7]
    refine call_pure (q2 d1 (by omega)) (by simp) (by simp [V.pure, V.pureL]) ?_
    simp -dsimp [fx_len]
    refine call_pure (q2 hr (by omega)) (by simp) (by simp [V.pure, V.pureL]) ?_
    simp -dsimp [fx_len]
    refine call_pure (q2 mi (by omega)) (by simp) (by simp [V.pure, V.pureL]) ?_
    simp -dsimp [fx_len]
    refine call_pure (q2 sc (by omega)) (by simp) (by simp [V.pure, V.pureL]) ?_
    simp -dsimp [fx_len, l8, v6]
    refine call_pure (q3 ms hms3) (by simp) (by simp [V.pure, V.pureL]) ?_
    simp -dsimp [fx_len]
    simp [dtx, c]
end Go.Proofs.P4

