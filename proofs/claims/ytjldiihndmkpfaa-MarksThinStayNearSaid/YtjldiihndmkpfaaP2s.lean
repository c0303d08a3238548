/- Thin of the reference. -/
import Derived.Test.YtjldiihndmkpfaaP2r
set_option linter.unusedVariables false
set_option linter.unusedSimpArgs false
set_option maxRecDepth 10000
set_option maxHeartbeats 8000000
namespace Go.Proofs.P3
open Go.Ex
theorem throughG_ok {m : List Mark} (g : Good m) {i j : Nat} (hij : i < j) (hj : j < m.length) {tick : Int} (h0 : (mAt m i).1 ≤ tick) (h1 : tick ≤ (mAt m j).1) :
    OkF Try.prog 119 [mkV (mAt m i), mkV (mAt m j), .int .i64 tick] (.int .i64 (thr (mAt m i) (mAt m j) tick), []) ∧ (mAt m i).2.1 ≤ thr (mAt m i) (mAt m j) tick ∧ thr (mAt m i) (mAt m j) tick ≤ (mAt m j).2.1 := by
  have hs := g.inc i j hij hj
  obtain ⟨⟨a1, a2⟩, ⟨a3, a4⟩, _⟩ := g.ok i (by omega)
  obtain ⟨⟨b1, b2⟩, ⟨b3, b4⟩, _⟩ := g.ok j hj
  generalize mAt m i = x at *
  generalize mAt m j = y at *
  have w1 : IntKind.i64.wrap (tick - x.1) = tick - x.1 := w_i64 (by omega) (by omega)
  have w2 : IntKind.i64.wrap (y.2.1 - x.2.1) = y.2.1 - x.2.1 := w_i64 (by omega) (by omega)
  have w3 : IntKind.i64.wrap (y.1 - x.1) = y.1 - x.1 := w_i64 (by omega) (by omega)
  obtain ⟨n1, _, n2, n3⟩ := near_eq (a := tick - x.1) (b := y.2.1 - x.2.1) (d := y.1 - x.1) (by omega) (by omega) (by omega) (by omega) (by omega)
  have cn := nearestR_ok (a := tick - x.1) (b := y.2.1 - x.2.1) (d := y.1 - x.1) (by omega) (by omega) (by omega) (by omega) (by omega) (by omega)
  rw [n1] at cn
  have e : thr x y tick = x.2.1 + nearS (tick - x.1) (y.2.1 - x.2.1) (y.1 - x.1) := rfl
  refine ⟨?_, by omega, by omega⟩
  refine OkF.W0 hm h119 (of_decide_eq_true rfl) ?_
  unfold c119
  simp -dsimp [w1, w2, w3]
  refine call_pure cn (by simp) rfl ?_
  rw [e]
  generalize nearS _ _ _ = z at *
  have w4 : IntKind.i64.wrap (x.2.1 + z) = x.2.1 + z := w_i64 (by omega) (by omega)
  simp -dsimp [w4]
open Classical in
noncomputable def strB (m : List Mark) (s : Int) (i j : Nat) : Bool := decide (Str m s i j)
theorem strB_true {m : List Mark} {s : Int} {i j : Nat} (h : Str m s i j) : strB m s i j = true := by unfold strB; simp [h]
theorem strB_false {m : List Mark} {s : Int} {i j : Nat} (h : ¬ Str m s i j) : strB m s i j = false := by unfold strB; simp [h]
theorem strB_iff {m : List Mark} {s : Int} {i j : Nat} : strB m s i j = true ↔ Str m s i j := by
  by_cases h : Str m s i j
  · simp [strB_true h, h]
  · simp [strB_false h, h]
def SI2 (m : List Mark) (s : Int) (i j : Nat) (n : Nat) (t : St) : Prop := ∃ k : Nat, n = j - k ∧ i < k ∧ k ≤ j ∧ (∀ k', i < k' → k' < k → okK m s i j k') ∧ t.t 9 = .int .i64 k ∧ t.t 0 = rM m ∧ t.t 1 = .int .i64 i ∧ t.t 2 = .int .i64 j ∧ t.t 3 = .int .i64 s
theorem straight_ok {m : List Mark} (g : Good m) {s : Int} (s0 : 0 ≤ s) (s1 : s ≤ 1000000000) {i j : Nat} (hij : i < j) (hj : j < m.length) : OkF Try.prog 84 [rM m, .int .i64 i, .int .i64 j, .int .i64 s] (.bool (strB m s i j), []) := by
  refine OkF.W0 hm h84 (of_decide_eq_true rfl) ?_
  unfold c84
  have hl := g.most
  have wi : IntKind.i64.wrap ((i : Int) + 1) = ((i + 1 : Nat) : Int) := by rw [IntWalk.i64_in _ (by omega)]; simp
  simp -dsimp [wi]
  refine loop_dec (SI2 m s i j) (j - (i + 1)) ?_ (fun n t hI => ?_)
  · exact ⟨i + 1, rfl, by omega, by omega, fun k a b => by omega, by simp -dsimp, by simp -dsimp, by simp -dsimp, by simp -dsimp, by simp -dsimp⟩
  · obtain ⟨k, hn, k1, k2, k3, i9, i0, i1, i2, i3⟩ := hI
    unfold l84_0
    by_cases hk : k < j
    · have hk' : (k : Int) < (j : Int) := by omega
      have hg := get_mAt (l := m) (k := i) (by omega)
      have hgj := get_mAt (l := m) (k := j) hj
      have hgk := get_mAt (l := m) (k := k) (by omega)
      have a := g.inc i k k1 (by omega)
      have b := g.inc k j hk hj
      obtain ⟨ct, t1, t2⟩ := throughG_ok g hij hj (tick := (mAt m k).1) (by omega) (by omega)
      have hok : okK m s i j k ↔ -s ≤ thr (mAt m i) (mAt m j) (mAt m k).1 - (mAt m k).2.1 ∧ thr (mAt m i) (mAt m j) (mAt m k).1 - (mAt m k).2.1 ≤ s := Iff.rfl
      obtain ⟨⟨a1, a2⟩, ⟨a3, a4⟩, _⟩ := g.ok i (by omega)
      obtain ⟨⟨b1, b2⟩, ⟨b3, b4⟩, _⟩ := g.ok j hj
      obtain ⟨⟨c1, c2⟩, ⟨c3, c4⟩, _⟩ := g.ok k (by omega)
      have hbad : ¬ okK m s i j k → strB m s i j = false := fun h => strB_false fun q => h (q k k1 hk)
      generalize mAt m i = x at *
      generalize mAt m j = y at *
      generalize mAt m k = z at *
      generalize thr x y z.1 = T at *
      have w1 : IntKind.i64.wrap (T - z.2.1) = T - z.2.1 := w_i64 (by omega) (by omega)
      have w2 : IntKind.i64.wrap (-(T - z.2.1)) = -(T - z.2.1) := w_i64 (by omega) (by omega)
      have w3 : IntKind.i64.wrap ((k : Int) + 1) = ((k + 1 : Nat) : Int) := by rw [IntWalk.i64_in _ (by omega)]; simp
      generalize hD : T - z.2.1 = D at *
      simp -dsimp [i9, i0, i1, i2, hk, hk', m_ia hg, m_ld hg, m_ia hgj, m_ld hgj, m_ia hgk, m_l0 hgk]
      refine call_pure ct (by simp) rfl ?_
      simp -dsimp [i9, i0, i1, i2, m_ia hgk, m_l1 hgk, hD, w1, i3]
      by_cases q1 : s < D
      · have e := hbad (fun h => by have := (hok.1 h).2; omega)
        simp -dsimp [q1, e]
      · simp -dsimp [q1, w2, i3]
        by_cases q2 : s < -D
        · have e := hbad (fun h => by have := (hok.1 h).1; omega)
          simp -dsimp [q2, e]
        · have hk0 : okK m s i j k := hok.2 ⟨by omega, by omega⟩
          simp -dsimp [q2, i9, w3]
          refine ⟨j - (k + 1), by omega, k + 1, rfl, by omega, by omega, fun k' u v => ?_, by simp -dsimp, by simp -dsimp [i0], by simp -dsimp [i1], by simp -dsimp [i2], by simp -dsimp [i3]⟩
          by_cases e : k' = k
          · subst e; exact hk0
          · exact k3 k' u (by omega)
    · have e : k = j := by omega
      subst e
      have e := strB_true (m := m) (s := s) (i := i) (j := k) k3
      simp -dsimp [i9, i2, e]
structure RA0 (m : List Mark) (s : Int) (i f : Nat) (acc : List Mark) (t : St) : Prop where
  i0 : i < m.length
  fu : m.length ≤ i + f
  len : acc.length ≤ i + 1
  eq : thinF m s f i acc = thinF m s m.length 0 [mAt m 0]
  t0 : t.t 0 = rM m
  t1 : t.t 1 = .int .i64 s
  t8 : t.t 8 = .int .i64 i
  ac : Acc markCd t.h t.nx (t.t 7) acc
def RA (m : List Mark) (s : Int) (n : Nat) (t : St) : Prop := ∃ (i f : Nat) (acc : List Mark), n = m.length - i ∧ RA0 m s i f acc t
def RB (m : List Mark) (s : Int) (i : Nat) (h0 : Hp) (nx : Nat) (v7 : V) (n : Nat) (t : St) : Prop := ∃ j : Nat, n = j ∧ i < j ∧ j < m.length ∧ (∀ k, j < k → k < m.length → ¬ Str m s i k) ∧ t.t 9 = .int .i64 j ∧ t.t 0 = rM m ∧ t.t 1 = .int .i64 s ∧ t.t 8 = .int .i64 i ∧ t.t 7 = v7 ∧ t.h = h0 ∧ t.nx = nx
theorem ThinR_ok (l : List Mark) (s : Int) : OkF Try.prog 37 [rM l, .int .i64 s] (.tup [rM (thinS l s).1, .int .i64 (thinS l s).2], []) := by
  refine OkF.W0 hm h37 (of_decide_eq_true rfl) ?_
  unfold c37
  simp -dsimp
  refine call_pure (CheckMarksR_ok l) (by simp) rfl ?_
  simp -dsimp
  have bad : ∀ v, thinE l s = v → v ≠ 0 → thinS l s = ([], v) := fun v h1 h2 => by unfold thinS; rw [h1, if_pos h2]
  by_cases a0 : marksE l = 0
  rotate_left
  · have e := bad (marksE l) (by unfold thinE; rw [if_pos a0]) a0
    simp -dsimp [a0, e]
  simp -dsimp [a0]
  refine call_pure (within2_ok _ _ _) (by simp) rfl ?_
  cases a2 : inB s 0 1000000000 with
  | false =>
    have e := bad 1 (by unfold thinE; rw [if_neg (by simpa using a0), if_pos a2]) (by decide)
    simp -dsimp [e]
  | true =>
  have az : thinE l s = 0 := by unfold thinE; rw [if_neg (by simpa using a0), if_neg (by rw [a2]; decide)]
  have e : thinS l s = (thinF l s l.length 0 [mAt l 0], 0) := by unfold thinS; rw [if_neg (by simpa using az)]
  obtain ⟨g, s0, s1⟩ := thinE_good az
  have hl := g.most; have hp := g.pos
  have hg0 := get_mAt hp
  have hia0 : ∀ h K, iaddrK h (.ro l.length (fl markCd l)) (.int .i64 0) 3 K ⟨⟩ = K (.rp (fl markCd l) 0) [] := fun h K => by
    have := m_ia (h := h) (kk := .i64) (K := K) hg0
    simpa using this
  have hld0 : ∀ h, ldA h (.rp (fl markCd l) 0) (some 3) = some (mkV (mAt l 0)) := fun h => by
    have := m_ld (h := h) hg0
    simpa using this
  simp -dsimp [hia0, hld0, fillA]
  refine loop_dec (RA l s) l.length ?_ (fun n t hI => ?_)
  · refine ⟨0, l.length, [mAt l 0], rfl, ⟨hp, by omega, by simp, rfl, by simp -dsimp, by simp -dsimp, by simp -dsimp, ?_⟩⟩
    simp -dsimp
    exact Acc.mk (l := [mAt l 0]) (by omega) (by simp [markCd, Cd.pair, fl])
  · obtain ⟨i, f, acc, hn, k0, fu, kl, keq, t0, t1, t8, hA⟩ := hI
    have w0 : IntKind.i64.wrap ((l.length : Int) - 1) = ((l.length - 1 : Nat) : Int) := by rw [w_i64 (by omega) (by omega)]; omega
    unfold l37_1
    by_cases hi : i + 1 < l.length
    · have hi' : i < l.length - 1 := by omega
      simp -dsimp [t8, t0, w0, hi']
      refine loop_dec (RB l s i t.h t.nx (t.t 7)) (l.length - 1) ?_ (fun n' t' hJ => ?_)
      · exact ⟨l.length - 1, rfl, by omega, by omega, fun k a b => by omega, by simp -dsimp, by simp -dsimp [t0], by simp -dsimp [t1], by simp -dsimp [t8], by simp -dsimp, rfl, rfl⟩
      · obtain ⟨j, hn', j1, j2, j3, i9, i0, i1, i8, i7, ih, inx⟩ := hJ
        have wj : IntKind.i64.wrap ((j : Int) - 1) = ((j - 1 : Nat) : Int) := by rw [w_i64 (by omega) (by omega)]; omega
        unfold l37_0
        simp -dsimp [i9, i0, i1, i8]
        refine call_pure (straight_ok g s0 s1 j1 j2) (by simp) rfl ?_
        by_cases q : Str l s i j
        · rw [strB_true q]
          have hfr : IsNx l s i j l.length := ⟨j1, j2, q, j3⟩
          obtain ⟨f', rfl, fu', keq'⟩ := thin_step hi hfr fu keq
          have hgf := get_mAt j2
          have hA' : Acc markCd t'.h t'.nx (t'.t 7) acc := by rw [i7, ih, inx]; exact hA
          simp -dsimp [i9, i0, m_ia hgf, m_ld hgf, fillA]
          refine push_acc (x := mAt l j) hA' rfl rfl (by omega) (by omega) fun v' h2 nx2 b1 b2 b3 b4 => ?_
          simp -dsimp [i9]
          exact ⟨l.length - j, by omega, j, f', _, rfl, ⟨j2, fu', by simp; omega, keq', by simp -dsimp [i0], by simp -dsimp [i1], by simp -dsimp, by simpa using b1⟩⟩
        · rw [strB_false q]
          have hne : ¬ j = i + 1 := fun e => q (by rw [e]; exact str_one _ _ _)
          simp -dsimp [i9, wj]
          refine ⟨j - 1, by omega, j - 1, rfl, by omega, by omega, fun k a b => ?_, by simp -dsimp, by simp -dsimp [i0], by simp -dsimp [i1], by simp -dsimp [i8], by simp -dsimp [i7], ih, inx⟩
          by_cases e : k = j
          · subst e; exact q
          · exact j3 k (by omega) b
    · have hi' : ¬ i < l.length - 1 := by omega
      have he := thin_stop (m := l) (s := s) (f := f) (acc := acc) hi
      rw [keq] at he
      rw [he] at e
      have ex := hA.ex1
      simp -dsimp [t8, t0, w0, hi', e]
      simp [ex]
end Go.Proofs.P3
