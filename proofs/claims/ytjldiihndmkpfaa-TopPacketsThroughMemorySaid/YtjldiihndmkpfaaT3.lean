/- Packets as bytes. -/
import Derived.Test.YtjldiihndmkpfaaT2
set_option linter.unusedVariables false
set_option linter.unusedSimpArgs false
set_option maxRecDepth 10000
set_option maxHeartbeats 8000000
namespace Go.Proofs.P3
open Go.Ex
abbrev Pkt := Int × Bool × Int × Int × List UInt8
abbrev pkV (p : Pkt) : V := .agg [.int .i64 p.1, .bool p.2.1, .int .i64 p.2.2.1, .int .i64 p.2.2.2.1, rB p.2.2.2.2]
theorem flb_len (l : List UInt8) : (fl byteCd l).length = l.length := by rw [flat_len]; show l.length * 1 = _; omega
theorem src_two {g : Hp} {id n : Nat} (hb : g id = some ⟨0, 1, fl byteCd (twoB n), none⟩) : srcA g 1 (.sl id 0 0 2 (some 2)) = some ((twoB n).length, fl byteCd (twoB n)) := by
  rw [src_sl, hb, Option.bind_some]
  rw [if_pos ⟨rfl, rfl, rfl, by show 0 + 2 * 1 ≤ 2; decide⟩]
  rfl
def AppQ (h : Hp) (nx : Nat) (v : V) (l l' : List UInt8) : V → Hp → Nat → Prop := fun v' h' nx' => Acc byteCd h' nx' v' (l ++ l') ∧ nx ≤ nx' ∧ (∀ j, j < nx → ownOf v ≠ some j → h' j = h j) ∧ (∀ j, ownOf v' = some j → ownOf v = some j ∨ nx ≤ j)
theorem summed_ex {h : Hp} {nx : Nat} {v : V} {l : List UInt8} (ha : Acc byteCd h nx v l) (hl : l.length ≤ 100000) : SEx Try.prog 131 [v] h nx (AppQ h nx v l (twoB (sumN l))) := by
  refine SEx.of hm h131 (of_decide_eq_true rfl) ?_
  unfold c131
  have e62 := Go.Ex.e62
  have e47 := Go.Ex.e47
  have hs := Sum_ok l (by omega)
  have hlt := sumN_lt l
  have hro := ha.ro (n := 7)
  have ht := two_ok hlt
  generalize sumN l = x at *
  simp -dsimp [hro]
  refine call_int hs ?_
  simp -dsimp
  refine call_own ht (okRes_of (by simp)) ?_
  have hb : (upd h nx (some ⟨0, 1, fl byteCd (twoB x), none⟩)) nx = some ⟨0, 1, fl byteCd (twoB x), none⟩ := by simp
  have hsrc := src_two hb
  have ha' : Acc byteCd (upd h nx (some ⟨0, 1, fl byteCd (twoB x), none⟩)) (nx + 1) v l := ha.mono (by omega) fun j hj => by
    simp only [upd]
    rw [if_neg (by omega)]
  have hold : ∀ j, j < nx → (upd h nx (some ⟨0, 1, fl byteCd (twoB x), none⟩)) j = h j := fun j hj => by
    simp only [upd]
    rw [if_neg (by omega)]
  have htl : (twoB x).length = 2 := rfl
  simp -dsimp [addB, callRd_one, callWr_one]
  generalize upd h nx (some ⟨0, 1, fl byteCd (twoB x), none⟩) = G at *
  refine app_acc (l' := twoB x) ha' rfl rfl (by omega) (by omega) fun v' h' nx' b1 b2 b3 b4 => ?_
  simp -dsimp
  refine ⟨b1, by omega, fun j hj hne => by rw [b3 j (by omega) hne, hold j hj], fun j hj => ?_⟩
  rcases b4 j hj with e | e
  · exact .inl e
  · exact .inr (by omega)
def pkE (p : Pkt) : Int := if inB p.1 0 2047 = false then 1 else if inB p.2.2.1 0 3 = false then 4 else if inB p.2.2.2.1 0 16383 = false then 1 else if p.2.2.2.2.length = 0 then 9 else if 1000 < p.2.2.2.2.length then 2 else 0
theorem CheckPacket_ok (p : Pkt) : OkF Try.prog 102 [pkV p] (.int .i64 (pkE p), []) := by
  refine OkF.W0 hm h102 (of_decide_eq_true rfl) ?_
  unfold c102
  obtain ⟨s, c, pt, n, b⟩ := p
  simp -dsimp
  refine call_bool (In_ok _ _ _) ?_
  by_cases q1 : inB s 0 2047 = false
  · have e : pkE (s, c, pt, n, b) = 1 := by simp [pkE, q1]
    simp -dsimp [q1, e]
  have q1' : inB s 0 2047 = true := by simpa using q1
  simp -dsimp [q1']
  refine call_bool (In_ok _ _ _) ?_
  by_cases q2 : inB pt 0 3 = false
  · have e : pkE (s, c, pt, n, b) = 4 := by simp [pkE, q1', q2]
    simp -dsimp [q2, e]
  have q2' : inB pt 0 3 = true := by simpa using q2
  simp -dsimp [q2']
  refine call_bool (In_ok _ _ _) ?_
  by_cases q3 : inB n 0 16383 = false
  · have e : pkE (s, c, pt, n, b) = 1 := by simp [pkE, q1', q2', q3]
    simp -dsimp [q3, e]
  have q3' : inB n 0 16383 = true := by simpa using q3
  simp -dsimp [q3']
  by_cases q4 : b.length = 0
  · have q4' : (b.length : Int) = 0 := by omega
    have q4'' : b = [] := List.length_eq_zero_iff.1 q4
    have e : pkE (s, c, pt, n, b) = 9 := by simp [pkE, q1', q2', q3', q4'']
    simp -dsimp [q4'', e]
    try simp [e, q4'']
    try (subst q4''; exact e.symm)
  have q4' : ¬ (b.length : Int) = 0 := by omega
  have q4'' : ¬ b = [] := fun e => q4 (by rw [e]; rfl)
  by_cases q5 : 1000 < b.length
  · have q5' : (1000 : Int) < (b.length : Int) := by omega
    have e : pkE (s, c, pt, n, b) = 2 := by simp [pkE, q1', q2', q3', q4'', q5]
    simp -dsimp [q4', q4'', q5', e]
  · have q5' : ¬ (1000 : Int) < (b.length : Int) := by omega
    have e : pkE (s, c, pt, n, b) = 0 := by simp [pkE, q1', q2', q3', q4'', q5]
    simp -dsimp [q4', q4'', q5', e]
structure PkOk (p : Pkt) : Prop where
  s : 0 ≤ p.1 ∧ p.1 ≤ 2047
  pt : 0 ≤ p.2.2.1 ∧ p.2.2.1 ≤ 3
  n : 0 ≤ p.2.2.2.1 ∧ p.2.2.2.1 ≤ 16383
  b : 0 < p.2.2.2.2.length ∧ p.2.2.2.2.length ≤ 1000
theorem pk_good {p : Pkt} (h : pkE p = 0) : PkOk p := by
  unfold pkE at h
  split at h
  · cases h
  split at h
  · cases h
  split at h
  · cases h
  split at h
  · cases h
  split at h
  · cases h
  rename_i q1 q2 q3 q4 q5
  simp only [inB, Bool.not_eq_false, Bool.and_eq_true, decide_eq_true_eq] at q1 q2 q3
  exact ⟨q1, q2, q3, by omega, by omega⟩
def n0 (p : Pkt) : Nat := p.1.toNat + if p.2.1 then 4096 else 0
def n1 (p : Pkt) : Nat := p.2.2.1.toNat * 16384 + p.2.2.2.1.toNat
def hdB (p : Pkt) : List UInt8 := twoB (n0 p) ++ twoB (n1 p) ++ twoB (p.2.2.2.2.length + 1) ++ p.2.2.2.2
def rawB (p : Pkt) : List UInt8 := hdB p ++ twoB (sumN (hdB p))
theorem raw_ok {p : Pkt} (hp : PkOk p) : OkF Try.prog 103 [pkV p] (rB (rawB p), []) := by
  refine OkF.W0 hm h103 (of_decide_eq_true rfl) ?_
  unfold c103
  have e62 := Go.Ex.e62
  have e47 := Go.Ex.e47
  obtain ⟨h1, h2, h3, h4⟩ := hp
  unfold rawB hdB
  have hn0 : n0 p < 65536 := by unfold n0; split <;> omega
  have hn1 : n1 p < 65536 := by unfold n1; omega
  have d0 : (n0 p : Int) = p.1 + if p.2.1 then 4096 else 0 := by unfold n0; split <;> omega
  have d1 : (n1 p : Int) = p.2.2.1 * 16384 + p.2.2.2.1 := by unfold n1; omega
  generalize n0 p = x0 at *
  generalize n1 p = x1 at *
  obtain ⟨s, c, pt, n, b⟩ := p
  simp only at *
  have t0 := two_ok hn0
  have t1 := two_ok hn1
  have t2 := two_ok (n := b.length + 1) (by omega)
  have w1 : IntKind.i64.wrap (pt * 16384) = pt * 16384 := w_i64 (by omega) (by omega)
  have w2 : IntKind.i64.wrap (pt * 16384 + n) = (x1 : Int) := by rw [w_i64 (by omega) (by omega)]; omega
  have w3 : IntKind.i64.wrap ((b.length : Int) + 1) = ((b.length + 1 : Nat) : Int) := by rw [w_i64 (by omega) (by omega)]; omega
  generalize hb1 : b.length + 1 = x2 at *
  cases c with
  | true =>
    have d0' : s + 4096 = (x0 : Int) := by simpa using d0.symm
    have w0 : IntKind.i64.wrap (s + 4096) = (x0 : Int) := by rw [w_i64 (by omega) (by omega)]; exact d0'
    simp -dsimp [w0]
    refine call_own t0 (okRes_of (by simp)) ?_
    simp -dsimp [addB, callRd_one, callWr_one, w1, w2]
    refine call_own t1 (okRes_of (by simp)) ?_
    simp -dsimp [addB, callRd_one, callWr_one]
    generalize hG0 : (upd none0 0 (some ⟨0, 0, [V.int IntKind.i64 s, V.bool true, V.int IntKind.i64 pt, V.int IntKind.i64 n, rB b], none⟩) : Hp) = G0
    have g0 : G0 0 = some ⟨0, 0, [V.int IntKind.i64 s, V.bool true, V.int IntKind.i64 pt, V.int IntKind.i64 n, rB b], none⟩ := by rw [← hG0]; simp
    refine app_accW (d := byteCd) (l := twoB x0) (l' := twoB x1) (Acc.mk (l := twoB x0) (id := 1) (by decide) (by simp; rfl)) rfl rfl (by show (2 + 2) * 1 ≤ 2 ^ 47; decide) (by show 2 + 2 < 2 ^ 62; decide) fun v2 h2 nx2 rd wr a1 a2 a3 a4 a5 => ?_
    obtain ⟨i', rfl, rfl, f1, f2, f3⟩ := a5 (by simp [twoB])
    have m0 : i' = 1 ∨ i' = 3 := by
      rcases f1 with f1 | f1
      · left; injection f1 with f1; exact f1.symm
      · exact .inr f1
    have h20 : h2 0 = some ⟨0, 0, [V.int IntKind.i64 s, V.bool true, V.int IntKind.i64 pt, V.int IntKind.i64 n, rB b], none⟩ := by
      rw [a3 0 (by decide) (by simp [ownOf])]
      simp [g0]
    have o2 : ∀ j, ownOf v2 = some j → 1 ≤ j := fun j hj => by
      rcases a4 j hj with q | q
      · injection q with q; omega
      · omega
    have hl2 : (twoB x0 ++ twoB x1).length = 4 := rfl
    generalize twoB x0 ++ twoB x1 = L2 at *
    clear a3 a4 a5 f2
    rcases m0 with rfl | rfl <;> simp -dsimp [h20, w3]
    all_goals
      refine call_own t2 (okRes_of (by simp)) ?_
      simp -dsimp [addB, callRd_one, callWr_one]
      have b1 : Acc byteCd (upd h2 nx2 (some ⟨0, 1, fl byteCd (twoB x2), none⟩)) (nx2 + 1) v2 L2 := a1.mono (by omega) fun j hj => by
        simp only [upd]
        rw [if_neg (by omega)]
      have h30 : (upd h2 nx2 (some ⟨0, 1, fl byteCd (twoB x2), none⟩)) 0 = h2 0 := by
        simp only [upd]
        rw [if_neg (by omega)]
      refine app_acc (l' := twoB x2) b1 rfl rfl (by rw [hl2]; show (4 + 2) * 1 ≤ 2 ^ 47; decide) (by rw [hl2]; show 4 + 2 < 2 ^ 62; decide) fun v3 h3 nx3 c1 c2 c3 c4 => ?_
      have h40 : h3 0 = some ⟨0, 0, [V.int IntKind.i64 s, V.bool true, V.int IntKind.i64 pt, V.int IntKind.i64 n, rB b], none⟩ := by
        rw [c3 0 (by omega) (fun q => by have := o2 0 q; omega), h30, h20]
      have hl3 : (L2 ++ twoB x2).length = 6 := by rw [List.length_append, hl2]; rfl
      generalize L2 ++ twoB x2 = L3 at *
      simp -dsimp [h40]
      refine app_acc (l' := b) c1 (if_pos (flb_len b)) rfl (by omega) (by omega) fun v4 h4' nx4 e1 e2 e3 e4 => ?_
      have hl4 : (L3 ++ b).length ≤ 100000 := by rw [List.length_append]; omega
      generalize L3 ++ b = L4 at *
      simp -dsimp
      refine shr_ex (summed_ex e1 hl4) ?_
      rintro v5 h5 nx5 ⟨r1, -, -, -⟩
      simp -dsimp
      exact r1.ex
  | false =>
    obtain rfl : s = (x0 : Int) := by simpa using d0.symm
    simp -dsimp
    refine call_own t0 (okRes_of (by simp)) ?_
    simp -dsimp [addB, callRd_one, callWr_one, w1, w2]
    refine call_own t1 (okRes_of (by simp)) ?_
    simp -dsimp [addB, callRd_one, callWr_one]
    generalize hG0 : (upd none0 0 (some ⟨0, 0, [V.int IntKind.i64 (x0 : Int), V.bool false, V.int IntKind.i64 pt, V.int IntKind.i64 n, rB b], none⟩) : Hp) = G0
    have g0 : G0 0 = some ⟨0, 0, [V.int IntKind.i64 (x0 : Int), V.bool false, V.int IntKind.i64 pt, V.int IntKind.i64 n, rB b], none⟩ := by rw [← hG0]; simp
    refine app_accW (d := byteCd) (l := twoB x0) (l' := twoB x1) (Acc.mk (l := twoB x0) (id := 1) (by decide) (by simp; rfl)) rfl rfl (by show (2 + 2) * 1 ≤ 2 ^ 47; decide) (by show 2 + 2 < 2 ^ 62; decide) fun v2 h2 nx2 rd wr a1 a2 a3 a4 a5 => ?_
    obtain ⟨i', rfl, rfl, f1, f2, f3⟩ := a5 (by simp [twoB])
    have m0 : i' = 1 ∨ i' = 3 := by
      rcases f1 with f1 | f1
      · left; injection f1 with f1; exact f1.symm
      · exact .inr f1
    have h20 : h2 0 = some ⟨0, 0, [V.int IntKind.i64 (x0 : Int), V.bool false, V.int IntKind.i64 pt, V.int IntKind.i64 n, rB b], none⟩ := by
      rw [a3 0 (by decide) (by simp [ownOf])]
      simp [g0]
    have o2 : ∀ j, ownOf v2 = some j → 1 ≤ j := fun j hj => by
      rcases a4 j hj with q | q
      · injection q with q; omega
      · omega
    have hl2 : (twoB x0 ++ twoB x1).length = 4 := rfl
    generalize twoB x0 ++ twoB x1 = L2 at *
    clear a3 a4 a5 f2
    rcases m0 with rfl | rfl <;> simp -dsimp [h20, w3]
    all_goals
      refine call_own t2 (okRes_of (by simp)) ?_
      simp -dsimp [addB, callRd_one, callWr_one]
      have b1 : Acc byteCd (upd h2 nx2 (some ⟨0, 1, fl byteCd (twoB x2), none⟩)) (nx2 + 1) v2 L2 := a1.mono (by omega) fun j hj => by
        simp only [upd]
        rw [if_neg (by omega)]
      have h30 : (upd h2 nx2 (some ⟨0, 1, fl byteCd (twoB x2), none⟩)) 0 = h2 0 := by
        simp only [upd]
        rw [if_neg (by omega)]
      refine app_acc (l' := twoB x2) b1 rfl rfl (by rw [hl2]; show (4 + 2) * 1 ≤ 2 ^ 47; decide) (by rw [hl2]; show 4 + 2 < 2 ^ 62; decide) fun v3 h3 nx3 c1 c2 c3 c4 => ?_
      have h40 : h3 0 = some ⟨0, 0, [V.int IntKind.i64 (x0 : Int), V.bool false, V.int IntKind.i64 pt, V.int IntKind.i64 n, rB b], none⟩ := by
        rw [c3 0 (by omega) (fun q => by have := o2 0 q; omega), h30, h20]
      have hl3 : (L2 ++ twoB x2).length = 6 := by rw [List.length_append, hl2]; rfl
      generalize L2 ++ twoB x2 = L3 at *
      simp -dsimp [h40]
      refine app_acc (l' := b) c1 (if_pos (flb_len b)) rfl (by omega) (by omega) fun v4 h4' nx4 e1 e2 e3 e4 => ?_
      have hl4 : (L3 ++ b).length ≤ 100000 := by rw [List.length_append]; omega
      generalize L3 ++ b = L4 at *
      simp -dsimp
      refine shr_ex (summed_ex e1 hl4) ?_
      rintro v5 h5 nx5 ⟨r1, -, -, -⟩
      simp -dsimp
      exact r1.ex
theorem Bytes_ok (p : Pkt) : OkF Try.prog 55 [pkV p] (.tup [rB (if pkE p = 0 then rawB p else []), .int .i64 (pkE p)], []) := by
  refine OkF.W0 hm h55 (of_decide_eq_true rfl) ?_
  unfold c55
  have k1 := CheckPacket_ok p
  by_cases h0 : pkE p = 0
  · have k2 := raw_ok (pk_good h0)
    rw [h0] at k1
    rw [if_pos h0, h0]
    generalize rawB p = r at *
    simp -dsimp
    refine call_pure k1 (by simp) rfl ?_
    simp -dsimp
    refine call_pure k2 (by simp) (by simp [V.pure, fl_pure]) ?_
    simp -dsimp
  · rw [if_neg h0]
    simp -dsimp
    refine call_pure k1 (by simp) rfl ?_
    simp -dsimp [h0]
end Go.Proofs.P3
