/- Dates are read: our side, whole. -/
import Derived.Test.YtjldiihndmkpfaaDoorH13
set_option linter.unusedVariables false
set_option linter.unusedSimpArgs false
set_option maxRecDepth 10000
set_option maxHeartbeats 8000000
namespace Go.Proofs.P4
open Go.Ex
structure MO (y m : Nat) (d : Int) (t0 : St) (r : Nat) (t : St) : Prop where
  ex : ∃ k, 1 ≤ k ∧ k + r = m ∧ t.t 18 = .int .i64 k ∧ t.t 17 = .int .i64 (d + mo y k)
  k : ∀ i, i ∉ [17, 18, 134, 135, 136, 137, 138, 139, 140, 141, 142, 143] → t.t i = t0.t i
theorem months_loop {y m : Nat} {d : Int} (hm : 1 ≤ m) (hm2 : m ≤ 12) (hd : -4000000 < d) (hd2 : d < 4000000) {t0 : St} (i10 : t0.t 10 = .int .i64 y) (i11 : t0.t 11 = .int .i64 m) (hI : MO y m d t0 (m - 1) t0) :
    LP Tryd.prog l11_1 (fun e t => e = .exit 3 ∧ MO y m d t0 0 t) t0 ⟨⟩ ⟨⟩ := by
  refine loop_left (m - 1) (MO y m d t0) hI (fun t hI => ?_) (fun r t hr hI => ?_)
  · obtain ⟨⟨k, k0, k1, i18, i17⟩, hk⟩ := hI
    have j11 := hk 11 (by decide)
    rw [i11] at j11
    have hn : ¬ (k : Int) < (m : Int) := by omega
    generalize hD : d + (mo y k : Int) = D at *
    unfold l11_1
    simp -dsimp [i18, j11, hn]
    exact ⟨⟨k, k0, k1, by simp -dsimp [i18], by simp -dsimp [i17, hD]⟩, fun i hi => by
      simp only [List.mem_cons, List.not_mem_nil, or_false, not_or] at hi
      simp -dsimp [hi, hk i (by simp [hi])]⟩
  · obtain ⟨⟨k, k0, k1, i18, i17⟩, hk⟩ := hI
    have j10 := hk 10 (by decide)
    have j11 := hk 11 (by decide)
    rw [i10] at j10
    rw [i11] at j11
    have hn : (k : Int) < (m : Int) := by omega
    have lk := long_ok y k
    have hs := mo_succ (y := y) k0
    have hg := lg_pos y k
    have hb := mo_le y k 13 (by omega)
    have hb2 := mo_13 y
    have hb3 := yl_le y
    have hD2 : d + (mo y (k + 1) : Int) = d + (mo y k : Int) + (lg y k : Int) := by omega
    generalize hD : d + (mo y k : Int) = D at *
    have w1 : IntKind.i64.wrap (D + (lg y k : Int)) = D + (lg y k : Int) := w_i64 (by omega) (by omega)
    have w3 : IntKind.i64.wrap ((k : Int) + 1) = ((k + 1 : Nat) : Int) := by rw [w_i64 (by omega) (by omega)]; omega
    generalize lg y k = g at *
    generalize hk1 : k + 1 = k' at *
    unfold l11_1
    simp -dsimp [i18, j10, j11, hn, i17]
    refine call_int lk ?_
    simp -dsimp [w1, w3, i18]
    exact ⟨⟨k', by omega, by omega, by simp -dsimp, by simp -dsimp [hD2]⟩, fun i hi => by
      simp only [List.mem_cons, List.not_mem_nil, or_false, not_or] at hi
      simp -dsimp [hi, hk i (by simp [hi])]⟩
theorem acc_ld {h : Hp} {nx : Nat} {v : V} {l : List Int} (a : Acc ic h nx v l) (hl : 0 < l.length) : ∃ id ver off cap, v = .sl id ver off l.length cap ∧ ∀ (k : Nat) x, l[k]? = some x → (∀ {kk : IntKind} {K : V → List Nat → Prop}, iaddrK h (.sl id ver off l.length cap) (.int kk k) 1 K ⟨⟩ = K (.pt id ver (off + k)) [id]) ∧ ldA h (.pt id ver (off + k)) none = some (.int .i64 x) := by
  obtain ⟨id, ver, off, cap, cells, hv, hid, hb, hoff, hld, -⟩ := acc_cells a hl
  refine ⟨id, ver, off, cap, hv, fun k x hk => ⟨fun {kk K} => by rw [iaddr_sl hb rfl (List.getElem?_eq_some_iff.1 hk).1, Nat.mul_one], ?_⟩⟩
  rw [ld_pt hb, hld k x hk]
theorem ReadDate_ok (l : List Int) (s : List UInt8) : OkF Tryd.prog 11 [rI l, .str s] (.tup [.int .i64 (readF l s).1, .int .i64 (readF l s).2], []) := by
  refine OkF.W0 hm h11 (of_decide_eq_true rfl) ?_
  unfold c11
  simp -dsimp
  refine call_pure (CheckLeaps_ok l) (by simp) rfl ?_
  simp -dsimp
  by_cases a0 : leapsE l = 0
  rotate_left
  · have e : readF l s = (0, leapsE l) := by unfold readF; rw [if_pos a0]
    simp -dsimp [a0, e]
  simp -dsimp [a0]
  have no : ¬ Fm s → readF l s = (0, 10) := fun hF => by unfold readF; rw [if_neg (by simp [a0]), if_pos hF]
  by_cases h23 : s.length = 23
  rotate_left
  · have e := no fun q => h23 q.1
    have h23' : ¬ (s.length : Int) = 23 := by omega
    simp -dsimp [h23', e]
  have h23' : (s.length : Int) = 23 := by omega
  simp -dsimp [h23', fillA]
  refine LP_cut _ (form_loop (s := s) (ar := rI l) h23 ⟨by simp -dsimp, by simp -dsimp, by simp -dsimp, ⟨[0], Nums.zero s, ?_⟩, fun i f c hi => by omega⟩) ?_
  · simp -dsimp
    exact Acc.mk (l := [0]) (by omega) (by simp [fl])
  rintro ee t (⟨rfl, hF, i0, n, hN, ac⟩ | ⟨rfl, hF, i4, i5⟩)
  rotate_left
  · have e := no hF
    simp -dsimp [i4, i5, e]
  clear no
  have hl := leaps_good a0
  have hp := fm_parts hF
  have hn := hN.done
  rw [readF_eq a0 hF]
  generalize vl (seg s 0 4) = y at *
  generalize vl (seg s 5 2) = m at *
  generalize vl (seg s 8 2) = d at *
  generalize vl (seg s 11 2) = hh at *
  generalize vl (seg s 14 2) = mi at *
  generalize vl (seg s 17 2) = sc at *
  generalize vl (seg s 20 3) = ms at *
  subst hn
  clear hN
  obtain ⟨-, hy, hm, hd, hh1, hmi, hsc, hms⟩ := hp
  obtain ⟨id, ver, off, cap, hv, hld⟩ := acc_ld ac (by simp)
  have x0 : ∀ {K : V → List Nat → Prop}, iaddrK t.h (.sl id ver off 7 cap) (.int .i64 0) 1 K ⟨⟩ = K (.pt id ver off) [id] := fun {K} => (hld 0 y rfl).1
  have y0 : ldA t.h (.pt id ver off) none = some (.int .i64 y) := (hld 0 y rfl).2
  have x1 : ∀ {K : V → List Nat → Prop}, iaddrK t.h (.sl id ver off 7 cap) (.int .i64 1) 1 K ⟨⟩ = K (.pt id ver (off + 1)) [id] := fun {K} => (hld 1 m rfl).1
  have y1 : ldA t.h (.pt id ver (off + 1)) none = some (.int .i64 m) := (hld 1 m rfl).2
  have x2 : ∀ {K : V → List Nat → Prop}, iaddrK t.h (.sl id ver off 7 cap) (.int .i64 2) 1 K ⟨⟩ = K (.pt id ver (off + 2)) [id] := fun {K} => (hld 2 d rfl).1
  have y2 : ldA t.h (.pt id ver (off + 2)) none = some (.int .i64 d) := (hld 2 d rfl).2
  have x3 : ∀ {K : V → List Nat → Prop}, iaddrK t.h (.sl id ver off 7 cap) (.int .i64 3) 1 K ⟨⟩ = K (.pt id ver (off + 3)) [id] := fun {K} => (hld 3 hh rfl).1
  have y3 : ldA t.h (.pt id ver (off + 3)) none = some (.int .i64 hh) := (hld 3 hh rfl).2
  have x4 : ∀ {K : V → List Nat → Prop}, iaddrK t.h (.sl id ver off 7 cap) (.int .i64 4) 1 K ⟨⟩ = K (.pt id ver (off + 4)) [id] := fun {K} => (hld 4 mi rfl).1
  have y4 : ldA t.h (.pt id ver (off + 4)) none = some (.int .i64 mi) := (hld 4 mi rfl).2
  have x5 : ∀ {K : V → List Nat → Prop}, iaddrK t.h (.sl id ver off 7 cap) (.int .i64 5) 1 K ⟨⟩ = K (.pt id ver (off + 5)) [id] := fun {K} => (hld 5 sc rfl).1
  have y5 : ldA t.h (.pt id ver (off + 5)) none = some (.int .i64 sc) := (hld 5 sc rfl).2
  have x6 : ∀ {K : V → List Nat → Prop}, iaddrK t.h (.sl id ver off 7 cap) (.int .i64 6) 1 K ⟨⟩ = K (.pt id ver (off + 6)) [id] := fun {K} => (hld 6 ms rfl).1
  have y6 : ldA t.h (.pt id ver (off + 6)) none = some (.int .i64 ms) := (hld 6 ms rfl).2
  have hv' : t.t 7 = .sl id ver off 7 cap := hv
  clear hld hv ac
  simp -dsimp [hv', x0, x1, x2, x3, x4, x5, x6, y0, y1, y2, y3, y4, y5, y6]
  clear hv' x0 x1 x2 x3 x4 x5 x6 y0 y1 y2 y3 y4 y5 y6
  have bad : (¬ (1 ≤ m ∧ m ≤ 12) ∨ ¬ (1 ≤ d ∧ d ≤ lg y m) ∨ 23 < hh ∨ 59 < mi ∨ 60 < sc ∨ y < 2000) → readT l y m d hh mi sc ms = (0, 1) := fun h => by unfold readT; rw [if_pos h]
  refine call_bool (In_ok _ _ _) ?_
  by_cases c1 : 1 ≤ m ∧ m ≤ 12
  rotate_left
  · have e1 : inB (m : Int) 1 12 = false := by simp [inB]; omega
    simp -dsimp [e1, bad (.inl c1)]
  have e1 : inB (m : Int) 1 12 = true := by simp [inB]; omega
  simp -dsimp [e1]
  refine call_int (long_ok y m) ?_
  simp -dsimp
  refine call_bool (In_ok _ _ _) ?_
  by_cases c2 : 1 ≤ d ∧ d ≤ lg y m
  rotate_left
  · have e2 : inB (d : Int) 1 (lg y m) = false := by simp [inB]; omega
    simp -dsimp [e2, bad (.inr (.inl c2))]
  have e2 : inB (d : Int) 1 (lg y m) = true := by simp [inB]; omega
  by_cases c3 : 23 < hh
  · have c3' : (23 : Int) < (hh : Int) := by omega
    simp -dsimp [e2, c3', bad (.inr (.inr (.inl c3)))]
  have c3' : ¬ (23 : Int) < (hh : Int) := by omega
  by_cases c4 : 59 < mi
  · have c4' : (59 : Int) < (mi : Int) := by omega
    simp -dsimp [e2, c3', c4', bad (.inr (.inr (.inr (.inl c4))))]
  have c4' : ¬ (59 : Int) < (mi : Int) := by omega
  by_cases c5 : 60 < sc
  · have c5' : (60 : Int) < (sc : Int) := by omega
    simp -dsimp [e2, c3', c4', c5', bad (.inr (.inr (.inr (.inr (.inl c5)))))]
  have c5' : ¬ (60 : Int) < (sc : Int) := by omega
  have k1 := days_ok y (by omega)
  have k2 := days_ok 2000 (by decide)
  have hb2 := dy_le y 10000 (by omega)
  have hb3 := dy_10000
  have hb4 := dy_2000
  generalize hA : dy 2000 = A at *
  generalize hB : dy y = B at *
  generalize dy 10000 = Z at *
  have w1 : IntKind.i64.wrap ((B : Int) - (A : Int)) = (B : Int) - (A : Int) := w_i64 (by omega) (by omega)
  have w2 : IntKind.i64.wrap ((B : Int) - (A : Int) + (d : Int)) = (B : Int) - (A : Int) + (d : Int) := w_i64 (by omega) (by omega)
  have w3 : IntKind.i64.wrap ((B : Int) - (A : Int) + (d : Int) - 1) = (B : Int) - (A : Int) + (d : Int) - 1 := w_i64 (by omega) (by omega)
  simp -dsimp [e2, c3', c4', c5']
  refine call_int k1 ?_
  simp -dsimp
  refine call_int k2 ?_
  simp -dsimp [w1, w2, w3]
  have hN1 : -4000000 < (B : Int) - (A : Int) + (d : Int) - 1 := by omega
  have hN2 : (B : Int) - (A : Int) + (d : Int) - 1 < 4000000 := by omega
  have hneg : y < 2000 → (B : Int) - (A : Int) + (d : Int) - 1 + mo y m < 0 := fun q => by
    have v : Vd (y, m, d - 1) := ⟨c1.1, c1.2, by simp only; omega⟩
    have a := (dn_lt v).1
    simp only [dn] at a
    have b := dy_le (y + 1) 2000 q
    omega
  have hpos : 2000 ≤ y → (B : Int) - (A : Int) + (d : Int) - 1 + mo y m = (dayN y m d : Nat) := fun q => by
    have b := dy_le 2000 y q
    unfold dayN
    omega
  have hmo := mo_le y m 13 (by omega)
  have hmo2 := mo_13 y
  have hmo3 := yl_le y
  clear w1 w2 w3 k1 k2
  generalize (B : Int) - (A : Int) + (d : Int) - 1 = N at *
  have e0 : N + ((mo y 1 : Nat) : Int) = N := by rw [mo_1]; simp
  refine LP_cut _ (months_loop (y := y) (m := m) (d := N) c1.1 c1.2 hN1 hN2 (by simp -dsimp) (by simp -dsimp) ⟨⟨1, by decide, by omega, by simp -dsimp, by rw [e0]; simp -dsimp⟩, fun i hi => rfl⟩) ?_
  rintro ee t2 ⟨rfl, ⟨m', k1, hkm, i18, j17⟩, hk⟩
  obtain rfl : m' = m := hkm
  have b0 := hk 0 (by decide)
  have b13 := hk 13 (by decide)
  have b14 := hk 14 (by decide)
  have b15 := hk 15 (by decide)
  have b16 := hk 16 (by decide)
  clear hk
  simp -dsimp [i0] at b0 b13 b14 b15 b16
  generalize hM : N + (mo y m' : Int) = M at *
  have hM2 : -4000000 < M ∧ M < 5000000 := by omega
  have hlk := Contains_ok l M hl.most
  by_cases c6 : y < 2000
  · have hb := bad (.inr (.inr (.inr (.inr (.inr c6)))))
    have hM3 := hneg c6
    rw [hb]
    clear bad hneg hpos
    by_cases g1 : sc = 60
    rotate_left
    · have g1' : ¬ (sc : Int) = 60 := by omega
      simp -dsimp [b15, g1', j17, hM3]
    have g1' : (sc : Int) = 60 := by omega
    by_cases g2 : hh = 23
    rotate_left
    · have g2' : ¬ (hh : Int) = 23 := by omega
      simp -dsimp [b15, b13, g1', g2']
    have g2' : (hh : Int) = 23 := by omega
    by_cases g3 : mi = 59
    rotate_left
    · have g3' : ¬ (mi : Int) = 59 := by omega
      simp -dsimp [b15, b13, b14, g1', g2', g3']
    have g3' : (mi : Int) = 59 := by omega
    simp -dsimp [b15, b13, b14, b0, j17, g1', g2', g3']
    refine call_bool hlk ?_
    by_cases g4 : M ∈ l
    · simp -dsimp [g4, j17, hM3]
    · simp -dsimp [g4]
  have hM3 := hpos (by omega)
  have hM4 : ¬ M < 0 := by omega
  have hs := start_ok hl M (by omega) (by omega)
  have hr : readT l y m' d hh mi sc ms = if sc = 60 ∧ (hh ≠ 23 ∨ mi ≠ 59 ∨ M ∉ l) then (0, 1) else
      if 1000000000000 < st l M + (((hh * 60 + mi) * 60 + sc) * 1000 + ms : Nat) then (0, 1) else (st l M + (((hh * 60 + mi) * 60 + sc) * 1000 + ms : Nat), 0) := by
    unfold readT
    rw [if_neg (by omega), hM3]
  rw [hr]
  clear hr bad hneg hpos
  have hcl := cnt_le l M
  have hmost := hl.most
  have hst : st l M < 500000000000000 ∧ 0 ≤ st l M := by unfold st; omega
  generalize st l M = S at *
  have u1 : IntKind.i64.wrap ((hh : Int) * 3600) = (hh : Int) * 3600 := w_i64 (by omega) (by omega)
  have u2 : IntKind.i64.wrap ((mi : Int) * 60) = (mi : Int) * 60 := w_i64 (by omega) (by omega)
  have u3 : IntKind.i64.wrap ((hh : Int) * 3600 + (mi : Int) * 60) = (hh : Int) * 3600 + (mi : Int) * 60 := w_i64 (by omega) (by omega)
  have u4 : IntKind.i64.wrap ((hh : Int) * 3600 + (mi : Int) * 60 + (sc : Int)) = (hh : Int) * 3600 + (mi : Int) * 60 + (sc : Int) := w_i64 (by omega) (by omega)
  have u5 : IntKind.i64.wrap (((hh : Int) * 3600 + (mi : Int) * 60 + (sc : Int)) * 1000) = ((hh : Int) * 3600 + (mi : Int) * 60 + (sc : Int)) * 1000 := w_i64 (by omega) (by omega)
  have u6 : IntKind.i64.wrap (S + ((hh : Int) * 3600 + (mi : Int) * 60 + (sc : Int)) * 1000) = S + ((hh : Int) * 3600 + (mi : Int) * 60 + (sc : Int)) * 1000 := w_i64 (by omega) (by omega)
  have u7 : IntKind.i64.wrap (S + ((hh : Int) * 3600 + (mi : Int) * 60 + (sc : Int)) * 1000 + (ms : Int)) = S + (((hh * 60 + mi) * 60 + sc) * 1000 + ms : Nat) := by rw [w_i64 (by omega) (by omega)]; omega
  generalize S + (((hh * 60 + mi) * 60 + sc) * 1000 + ms : Nat) = T at *
  by_cases g1 : sc = 60
  rotate_left
  · have g1' : ¬ (sc : Int) = 60 := by omega
    have n : ¬ (sc = 60 ∧ (hh ≠ 23 ∨ mi ≠ 59 ∨ M ∉ l)) := fun q => g1 q.1
    rw [if_neg n]
    clear n
    simp -dsimp [b15, g1', b0, j17, hM4]
    refine call_int hs ?_
    by_cases g5 : 1000000000000 < T
    · simp -dsimp [b13, b14, b15, b16, u1, u2, u3, u4, u5, u6, u7, g5]
    · simp -dsimp [b13, b14, b15, b16, u1, u2, u3, u4, u5, u6, u7, g5]
  have g1' : (sc : Int) = 60 := by omega
  by_cases g2 : hh = 23
  rotate_left
  · have g2' : ¬ (hh : Int) = 23 := by omega
    have n : sc = 60 ∧ (hh ≠ 23 ∨ mi ≠ 59 ∨ M ∉ l) := ⟨g1, .inl g2⟩
    rw [if_pos n]
    clear n
    simp -dsimp [b15, b13, g1', g2']
  have g2' : (hh : Int) = 23 := by omega
  by_cases g3 : mi = 59
  rotate_left
  · have g3' : ¬ (mi : Int) = 59 := by omega
    have n : sc = 60 ∧ (hh ≠ 23 ∨ mi ≠ 59 ∨ M ∉ l) := ⟨g1, .inr (.inl g3)⟩
    rw [if_pos n]
    clear n
    simp -dsimp [b15, b13, b14, g1', g2', g3']
  have g3' : (mi : Int) = 59 := by omega
  by_cases g4 : M ∈ l
  rotate_left
  · have n : sc = 60 ∧ (hh ≠ 23 ∨ mi ≠ 59 ∨ M ∉ l) := ⟨g1, .inr (.inr g4)⟩
    rw [if_pos n]
    clear n
    simp -dsimp [b15, b13, b14, b0, j17, g1', g2', g3']
    refine call_bool hlk ?_
    simp -dsimp [g4]
  have n : ¬ (sc = 60 ∧ (hh ≠ 23 ∨ mi ≠ 59 ∨ M ∉ l)) := by simp [g1, g2, g3, g4]
  rw [if_neg n]
  clear n
  simp -dsimp [b15, b13, b14, b0, j17, g1', g2', g3']
  refine call_bool hlk ?_
  simp -dsimp [g4, b0, j17, hM4]
  refine call_int hs ?_
  by_cases g5 : 1000000000000 < T
  · simp -dsimp [b13, b14, b15, b16, u1, u2, u3, u4, u5, u6, u7, g5]
  · simp -dsimp [b13, b14, b15, b16, u1, u2, u3, u4, u5, u6, u7, g5]
end Go.Proofs.P4

