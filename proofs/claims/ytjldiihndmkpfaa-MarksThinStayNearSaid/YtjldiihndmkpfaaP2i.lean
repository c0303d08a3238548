/- The time at a tick, the tick of a time; both sides. -/
import Derived.Test.YtjldiihndmkpfaaP2h
set_option linter.unusedVariables false
set_option linter.unusedSimpArgs false
set_option maxRecDepth 10000
set_option maxHeartbeats 8000000
namespace Go.Proofs.P3
open Go.Ex
theorem m_ia1 {h : Hp} {k : Nat} {kk : IntKind} {K : V → List Nat → Prop} {l : List Mark} {a : Mark} (e : l[k + 1]? = some a) : iaddrK h (.ro l.length (fl markCd l)) (.int kk ((k : Int) + 1)) 3 K ⟨⟩ = K (.rp (fl markCd l) ((k + 1) * 3)) [] := m_ia e
theorem line1_body : hasBody Try.prog 136 = true := by kernel_rfl
theorem line1_ex (x : Mark) (hx : markOk x) {tick : Int} (t0 : 0 ≤ tick) (t1 : tick ≤ 1000000000001) {h : Hp} {nx : Nat} : SEx Try.prog 136 ([mkV x, .int .i64 tick] ++ []) h nx (Quiet (.int .i64 (x.1 - tick)) h nx) := by
  refine SEx.of hm h136 (of_decide_eq_true rfl) ?_
  unfold c136
  have w : IntKind.i64.wrap (x.1 - tick) = x.1 - tick := w_i64 (by have := hx.1; omega) (by have := hx.1; omega)
  simp -dsimp [w]
  exact ⟨rfl, by omega, fun j hj => by simp only [upd]; rw [if_neg (by omega)]⟩
def BM (l : List Mark) (tick : Int) (p : Nat) (h : Hp) (nx : Nat) (n : Nat) (t : St) : Prop := ∃ i j : Nat, n = j - i ∧ i ≤ p ∧ p ≤ j ∧ j ≤ l.length ∧ t.t 9 = .int .i64 i ∧ t.t 10 = .int .i64 j ∧ t.t 0 = rM l ∧ t.t 1 = .int .i64 tick ∧ t.t 2 = .fn 136 [] ∧ t.t 8 = .int .i64 l.length ∧ nx ≤ t.nx ∧ ∀ j, j < nx → t.h j = h j
theorem bsm_ok {l : List Mark} (g : Good l) {tick : Int} (t0 : 0 ≤ tick) (t1 : tick ≤ 1000000000001) {h : Hp} {nx : Nat} :
    SEx Try.prog 135 [rM l, .int .i64 tick, .fn 136 []] h nx (fun v h' nx' => (∃ b, v = .tup [.int .i64 (cnt l tick), .bool b]) ∧ nx ≤ nx' ∧ ∀ j, j < nx → h' j = h j) := by
  have hc := cnt_is g tick
  have hl := g.most
  have hp := hc.le
  have hM : ∀ k : Nat, k < l.length → decide ((mAt l k).1 - tick < 0) = decide (k < cnt l tick) := fun k hk => by
    by_cases q : k < cnt l tick
    · have := hc.lo k q; simp [q]; omega
    · have := hc.hi k (by omega) hk; simp [q]; omega
  generalize cnt l tick = p at *
  refine SEx.of hm h135 (of_decide_eq_true rfl) ?_
  unfold c135
  simp -dsimp
  refine loop_dec (BM l tick p h nx) l.length ?_ (fun n t hI => ?_)
  · exact ⟨0, l.length, rfl, by omega, hp, Nat.le_refl _, by simp -dsimp, by simp -dsimp, by simp -dsimp, by simp -dsimp, by simp -dsimp, by simp -dsimp, by simp -dsimp, by simp -dsimp⟩
  · obtain ⟨i, j, hn, hip, hpj, hjl, i9, i10, i0, i1, i2, i8, inx, ih⟩ := hI
    unfold l135_0
    by_cases hij : i < j
    · have hij' : (i : Int) < (j : Int) := by omega
      have hw1 : IntKind.i64.wrap ((i : Int) + (j : Int)) = (i : Int) + (j : Int) := IntWalk.i64_in _ (by omega)
      have hw2 : IntKind.u64.wrap ((i : Int) + (j : Int)) = (i : Int) + (j : Int) := IntWalk.u64_in _ (by omega)
      have hfd : ((i : Int) + (j : Int)).fdiv (2 ^ min 1 IntKind.u64.bits) = (((i + j) / 2 : Nat) : Int) := by
        have : (2 : Int) ^ min 1 IntKind.u64.bits = 2 := by decide
        rw [this, Int.fdiv_eq_ediv_of_nonneg _ (by omega)]
        omega
      have hw3 : IntKind.i64.wrap (((i + j) / 2 : Nat) : Int) = (((i + j) / 2 : Nat) : Int) := IntWalk.i64_in _ (by omega)
      have hm1 : i ≤ (i + j) / 2 := by omega
      have hm2 : (i + j) / 2 < j := by omega
      generalize (i + j) / 2 = m at hfd hw3 hm1 hm2
      have hg := get_mAt (l := l) (k := m) (by omega)
      have hMy := hM m (by omega)
      have hok := g.ok m (by omega)
      generalize mAt l m = y at *
      have hw4 : IntKind.i64.wrap ((m : Int) + 1) = (m : Int) + 1 := IntWalk.i64_in _ (by omega)
      simp -dsimp [i9, i10, i0, i2, i1, hij', hw1, hw2, hfd, hw3, m_ia hg, m_ld hg]
      refine calv_ex (Q := Quiet (.int .i64 (y.1 - tick)) t.h t.nx) line1_body (line1_ex y hok t0 t1) ?_
      rintro v h' nx' ⟨rfl, q1, q2⟩
      have hMy' : decide (y.1 < tick) = decide (m < p) := by rw [← hMy]; simp; omega
      have hfr : ∀ j, j < nx → h' j = h j := fun j hj => by rw [q2 j (by omega), ih j hj]
      simp -dsimp
      by_cases hmp : m < p
      · have hyt : y.1 - tick < 0 := by rw [← decide_eq_true_iff (p := y.1 - tick < 0), hMy]; simpa using hmp
        simp -dsimp [hyt, hw4, i9, i10, i0, i2, i1, i8]
        exact ⟨j - (m + 1), by omega, m + 1, j, rfl, by omega, by omega, by omega, by simp -dsimp, by simp -dsimp [i10], by simp -dsimp [i0], by simp -dsimp [i1], by simp -dsimp [i2], by simp -dsimp [i8], by simp -dsimp; omega, by simpa using hfr⟩
      · have hyt : ¬ y.1 - tick < 0 := by rw [← decide_eq_true_iff (p := y.1 - tick < 0), hMy]; simpa using hmp
        simp -dsimp [hyt, i9, i10, i0, i2, i1, i8]
        exact ⟨m - i, by omega, i, m, rfl, by omega, by omega, by omega, by simp -dsimp [i9], by simp -dsimp, by simp -dsimp [i0], by simp -dsimp [i1], by simp -dsimp [i2], by simp -dsimp [i8], by simp -dsimp; omega, by simpa using hfr⟩
    · have : i = p := by omega
      subst this
      have hij' : ¬ (i : Int) < (j : Int) := by omega
      simp -dsimp [i9, i10, i0, i2, i1, i8, hij']
      by_cases hil : i < l.length
      · have hg := get_mAt (l := l) (k := i) hil
        have hok := g.ok i hil
        generalize mAt l i = y at *
        simp -dsimp [hil, i0, i9, i1, m_ia hg, m_ld hg, i2]
        refine calv_ex (Q := Quiet (.int .i64 (y.1 - tick)) t.h t.nx) line1_body (line1_ex y hok t0 t1) ?_
        rintro v h' nx' ⟨rfl, q1, q2⟩
        simp -dsimp
        exact ⟨by omega, fun j hj => by rw [q2 j (by omega), ih j hj]⟩
      · simp -dsimp [hil]
        exact ⟨inx, ih⟩
theorem line_ok {l : List Mark} (g : Good l) (h2 : 2 ≤ l.length) {tick : Int} (t0 : 0 ≤ tick) (t1 : tick ≤ 1000000000000) : OkF Try.prog 117 [rM l, .int .i64 tick] (.int .i64 (lineS l tick), []) := by
  refine OkF.W0 hm h117 (of_decide_eq_true rfl) ?_
  unfold c117
  have w1 : IntKind.i64.wrap (tick + 1) = tick + 1 := w_i64 (by omega) (by omega)
  have hc := (cnt_is g (tick + 1)).le
  have hl := g.most
  have w2 : IntKind.i64.wrap ((cnt l (tick + 1) : Int) - 1) = (cnt l (tick + 1) : Int) - 1 := w_i64 (by omega) (by omega)
  have w3 : IntKind.i64.wrap ((l.length : Int) - 2) = (l.length : Int) - 2 := w_i64 (by omega) (by omega)
  have e : min (max ((cnt l (tick + 1) : Int) - 1) 0) ((l.length : Int) - 2) = (lineS l tick : Int) := by unfold lineS; omega
  simp -dsimp [w1]
  refine shr_ex (bsm_ok g (by omega) (by omega)) ?_
  rintro v h' nx' ⟨⟨b, rfl⟩, hn, hf⟩
  simp -dsimp [w2, w3, e]
theorem seg_rng {m : List Mark} (g : Good m) {i : Nat} (hi : i + 1 < m.length) (tick : Int) : -4611686018427387904 ≤ segS m i tick ∧ segS m i tick ≤ 4611687018427387904 := by
  have hs := g.inc i (i + 1) (by omega) hi
  have ok := g.ok i (by omega)
  have := near_range (a := tick - (mAt m i).1) (b := (mAt m (i + 1)).2.1 - (mAt m i).2.1) (d := (mAt m (i + 1)).1 - (mAt m i).1) (by omega) (by omega)
  unfold segS
  have := ok.2.1
  omega
theorem at_ok {l : List Mark} (g : Good l) (h2 : 2 ≤ l.length) {tick : Int} (t0 : 0 ≤ tick) (t1 : tick ≤ 1000000000000) : OkF Try.prog 73 [rM l, .int .i64 tick] (.int .i64 (atS l tick), []) := by
  refine OkF.W0 hm h73 (of_decide_eq_true rfl) ?_
  unfold c73 atS
  have hlt := (line_is g h2 tick).lt
  have hln := line_ok g h2 t0 t1
  have hl := g.most
  generalize lineS l tick = i at *
  have hr := seg_rng g hlt tick
  have hseg : segS l i tick = (mAt l i).2.1 + nearS (tick - (mAt l i).1) ((mAt l (i + 1)).2.1 - (mAt l i).2.1) ((mAt l (i + 1)).1 - (mAt l i).1) := rfl
  have hs := g.inc i (i + 1) (by omega) hlt
  obtain ⟨⟨a1, a2⟩, ⟨a3, a4⟩, _⟩ := g.ok i (by omega)
  obtain ⟨⟨b1, b2⟩, ⟨b3, b4⟩, _⟩ := g.ok (i + 1) hlt
  have hg := get_mAt (l := l) (k := i) (by omega)
  have hg' := get_mAt (l := l) (k := i + 1) hlt
  generalize mAt l i = x at *
  generalize mAt l (i + 1) = y at *
  have w0 : IntKind.i64.wrap ((i : Int) + 1) = ((i + 1 : Nat) : Int) := by rw [IntWalk.i64_in _ (by omega)]; simp
  have w1 : IntKind.i64.wrap (tick - x.1) = tick - x.1 := w_i64 (by omega) (by omega)
  have w2 : IntKind.i64.wrap (y.2.1 - x.2.1) = y.2.1 - x.2.1 := w_i64 (by omega) (by omega)
  have w3 : IntKind.i64.wrap (y.1 - x.1) = y.1 - x.1 := w_i64 (by omega) (by omega)
  have cn := Nearest_ok (a := tick - x.1) (b := y.2.1 - x.2.1) (d := y.1 - x.1) (by omega) (by omega) (by omega) (by omega) (by omega) (by omega)
  have w4 : IntKind.i64.wrap (x.2.1 + nearS (tick - x.1) (y.2.1 - x.2.1) (y.1 - x.1)) = x.2.1 + nearS (tick - x.1) (y.2.1 - x.2.1) (y.1 - x.1) := w_i64 (by omega) (by omega)
  simp -dsimp
  refine call_pure hln (by simp) rfl ?_
  simp -dsimp [w0, m_ia hg, m_ia1 hg', m_ld hg, m_ld hg', w1, w2, w3]
  refine call_pure cn (by simp) rfl ?_
  simp -dsimp [w4, hseg]
theorem timeAt_ok {l : List Mark} (g : Good l) (h2 : 2 ≤ l.length) {tick : Int} (t0 : 0 ≤ tick) (t1 : tick ≤ 1000000000000) : OkF Try.prog 74 [rM l, .int .i64 tick] (.int .i64 (atR l tick), []) := by
  refine OkF.W0 hm h74 (of_decide_eq_true rfl) ?_
  unfold c74
  have hl := g.most
  simp -dsimp
  refine loop_to 5 l.length (fun k t => t.t 5 = .int .i64 k ∧ t.t 0 = rM l ∧ t.t 1 = .int .i64 tick ∧ k + 2 ≤ l.length ∧ ((mAt l k).1 ≤ tick ∨ k = 0)) (fun k t h => h.1) ?_ (fun k t hkl hI => ?_)
  · simp -dsimp [h2]
  · obtain ⟨i5, i0, i1, hk2, hd⟩ := hI
    have hw : IntKind.i64.wrap ((k : Int) + 1) = ((k + 1 : Nat) : Int) := by rw [IntWalk.i64_in _ (by omega)]; simp
    have hw2 : IntKind.i64.wrap ((k : Int) + 2) = (k : Int) + 2 := IntWalk.i64_in _ (by omega)
    have hg := get_mAt (l := l) (k := k) (by omega)
    have hg' := get_mAt (l := l) (k := k + 1) (by omega)
    have fin : LineOf l tick k → lineS l tick = k := fun hL => (line_is g h2 tick).unique g hL
    unfold l74_0
    have hout : LineOf l tick k → atR l tick = segR l k tick := fun hL => by unfold atR; rw [fin hL]
    by_cases c1 : k + 2 < l.length
    · have c1' : (k : Int) + 2 < (l.length : Int) := by omega
      by_cases c2 : (mAt l (k + 1)).1 ≤ tick
      · simp -dsimp [i5, i0, i1, hw2, c1', c1, hw, m_ia1 hg', m_l0 hg', c2]
        omega
      · have e := hout ⟨by omega, .inl (by omega), hd⟩
        simp -dsimp [i5, i0, i1, hw2, c1', c1, hw, m_ia1 hg', m_l0 hg', c2, m_ia hg, m_ld hg, m_ld hg']
        refine call_pure (through_ok g (by omega) t0 t1) (by simp) rfl ?_
        simp -dsimp [e]
    · have c1' : ¬ (k : Int) + 2 < (l.length : Int) := by omega
      have e := hout ⟨by omega, .inr (by omega), hd⟩
      simp -dsimp [i5, i0, i1, hw2, c1', c1, hw, m_ia1 hg', m_l0 hg', m_ia hg, m_ld hg, m_ld hg']
      refine call_pure (through_ok g (by omega) t0 t1) (by simp) rfl ?_
      simp -dsimp [e]
end Go.Proofs.P3
