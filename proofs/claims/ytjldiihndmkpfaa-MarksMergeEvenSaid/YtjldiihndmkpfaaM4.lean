/- symMerge after its search; symMerge, by induction; A stable sort: blocks, plain; its loops; A stable sort, whole; slices.Compact of a row of marks; Merged marks: plain; Merged; The reference's Merged; Merged marks: the laws. -/
import Derived.Test.YtjldiihndmkpfaaM3
section
set_option linter.unusedVariables false
set_option linter.unusedSimpArgs false
set_option maxRecDepth 10000
set_option maxHeartbeats 8000000
namespace Go.Proofs.P3
open Go.Ex
theorem W_cut {P : Program} {C D : Cmd} {Q : E → St → Prop} {s : St} (I : St → Prop) (h : W P C (fun e s => e = .norm ∧ I s) s ⟨⟩ ⟨⟩) (hD : ∀ s, I s → W P D Q s ⟨⟩ ⟨⟩) : W P C (fun e s => seqK (fun s => W P D Q s ⟨⟩ ⟨⟩) Q e s ⟨⟩ ⟨⟩) s ⟨⟩ ⟨⟩ :=
  wpA_mono C (fun e s' he => by obtain ⟨rfl, hi⟩ := he; exact hD s' hi) h
def T1 : Cmd := (.seq (.reg false [⟨(some 178), none, (.mov (.t 20)), []⟩, ⟨(some 179), none, (.mov (.t 2)), []⟩, ⟨(some 180), none, (.bin .lss (.t 178) (.t 179)), []⟩, ⟨(some 181), none, (.mov (.t 180)), []⟩, ⟨(some 182), (some (181, true)), (.mov (.t 2)), []⟩, ⟨(some 183), (some (181, true)), (.mov (.t 24)), []⟩, ⟨(some 184), (some (181, true)), (.bin .lss (.t 182) (.t 183)), []⟩, ⟨(some 185), none, (.pick (.t 181) (.t 184) (.c (.bool false))), []⟩]) (.cond (.t 185) (.reg false [⟨(some 186), none, (.mov (.t 0)), []⟩, ⟨(some 187), none, (.mov (.t 20)), []⟩, ⟨(some 188), none, (.mov (.t 2)), []⟩, ⟨(some 189), none, (.mov (.t 24)), []⟩, ⟨(some 190), none, (.mov (.t 4)), []⟩, ⟨(some 191), none, (.shr 149 [(.t 186), (.t 187), (.t 188), (.t 189), (.t 190)]), []⟩]) .skip))
def T2 : Cmd := (.seq (.reg false [⟨(some 192), none, (.mov (.t 1)), []⟩, ⟨(some 193), none, (.mov (.t 20)), []⟩, ⟨(some 194), none, (.bin .lss (.t 192) (.t 193)), []⟩, ⟨(some 195), none, (.mov (.t 194)), []⟩, ⟨(some 196), (some (195, true)), (.mov (.t 20)), []⟩, ⟨(some 197), (some (195, true)), (.mov (.t 18)), []⟩, ⟨(some 198), (some (195, true)), (.bin .lss (.t 196) (.t 197)), []⟩, ⟨(some 199), none, (.pick (.t 195) (.t 198) (.c (.bool false))), []⟩]) (.cond (.t 199) (.reg false [⟨(some 200), none, (.mov (.t 0)), []⟩, ⟨(some 201), none, (.mov (.t 1)), []⟩, ⟨(some 202), none, (.mov (.t 20)), []⟩, ⟨(some 203), none, (.mov (.t 18)), []⟩, ⟨(some 204), none, (.mov (.t 4)), []⟩, ⟨(some 205), none, (.shr 140 [(.t 200), (.t 201), (.t 202), (.t 203), (.t 204)]), []⟩]) .skip))
def T3 : Cmd := (.seq (.reg false [⟨(some 206), none, (.mov (.t 18)), []⟩, ⟨(some 207), none, (.mov (.t 24)), []⟩, ⟨(some 208), none, (.bin .lss (.t 206) (.t 207)), []⟩, ⟨(some 209), none, (.mov (.t 208)), []⟩, ⟨(some 210), (some (209, true)), (.mov (.t 24)), []⟩, ⟨(some 211), (some (209, true)), (.mov (.t 3)), []⟩, ⟨(some 212), (some (209, true)), (.bin .lss (.t 210) (.t 211)), []⟩, ⟨(some 213), none, (.pick (.t 209) (.t 212) (.c (.bool false))), []⟩]) (.cond (.t 213) (.reg false [⟨(some 214), none, (.mov (.t 0)), []⟩, ⟨(some 215), none, (.mov (.t 18)), []⟩, ⟨(some 216), none, (.mov (.t 24)), []⟩, ⟨(some 217), none, (.mov (.t 3)), []⟩, ⟨(some 218), none, (.mov (.t 4)), []⟩, ⟨(some 219), none, (.shr 140 [(.t 214), (.t 215), (.t 216), (.t 217), (.t 218)]), []⟩]) .skip))
def T0 : Cmd := (.seq (.reg false [⟨(some 175), none, (.mov (.t 19)), []⟩, ⟨(some 176), none, (.mov (.t 20)), []⟩, ⟨(some 177), none, (.bin .sub (.t 175) (.t 176)), []⟩, ⟨(some 24), none, (.mov (.t 177)), []⟩]) (.seq T1 (.seq T2 T3)))
structure MD (id ver nn : Nat) (cap : Option Nat) (a m b nx : Nat) (h : Hp) (mid c ed : Nat) (row : List Mark) (t : St) : Prop where
  i0 : t.t 0 = .sl id ver 0 nn cap
  i1 : t.t 1 = .int .i64 a
  i2 : t.t 2 = .int .i64 m
  i3 : t.t 3 = .int .i64 b
  i4 : t.t 4 = cmpV
  i18 : t.t 18 = .int .i64 mid
  i20 : t.t 20 = .int .i64 c
  i24 : t.t 24 = .int .i64 ed
  inx : nx ≤ t.nx
  ih : ∀ j, j < nx → j ≠ id → t.h j = h j
  ib : t.h id = rowB ver row
section
variable {id ver nn : Nat} {cap : Option Nat} {a m b nx : Nat} {h : Hp} {mid c ed : Nat} {p x1 x2 y1 y2 z1 q : List Mark} {t : St}
theorem t1_ex (hid : id < nx) (hl : nn ≤ 5000) (l0 : p.length = a) (l1 : a + x1.length = c) (l2 : c + x2.length = m) (l3 : m + y1.length = ed) (l4 : ed + y2.length = b) (l5 : b + q.length = nn)
    (H : MD id ver nn cap a m b nx h mid c ed (p ++ ((x1 ++ x2) ++ ((y1 ++ y2) ++ q))) t) : W Try.prog T1 (fun e s => e = .norm ∧ MD id ver nn cap a m b nx h mid c ed (p ++ (x1 ++ (y1 ++ (x2 ++ (y2 ++ q))))) s) t ⟨⟩ ⟨⟩ := by
  obtain ⟨i0, i1, i2, i3, i4, i18, i20, i24, inx, ih, ib⟩ := H
  unfold T1
  by_cases c1 : c < m
  · by_cases c2 : m < ed
    · have hrow : p ++ ((x1 ++ x2) ++ ((y1 ++ y2) ++ q)) = (p ++ x1) ++ (x2 ++ (y1 ++ (y2 ++ q))) := by simp
      rw [hrow] at ib
      have hr := rotate_ex (cap := cap) (nx := t.nx) ib (by omega) (by simp; omega) (by omega) (by omega)
      rw [show (p ++ x1).length + x2.length + y1.length + (y2 ++ q).length = nn by simp; omega, show (p ++ x1).length + x2.length + y1.length = ed by simp; omega, show (p ++ x1).length + x2.length = m by simp; omega, show (p ++ x1).length = c by simp; omega] at hr
      simp -dsimp [i0, i1, i2, i3, i4, i18, i20, i24, c1, c2]
      refine shr_ex hr ?_
      rintro v h' nx' ⟨r1, r2, l', rfl, r3⟩
      simp -dsimp
      refine ⟨by simp -dsimp [i0], by simp -dsimp [i1], by simp -dsimp [i2], by simp -dsimp [i3], by simp -dsimp [i4], by simp -dsimp [i18], by simp -dsimp [i20], by simp -dsimp [i24], by simp -dsimp; omega, fun j hj hne => ?_, ?_⟩
      · simp -dsimp
        rw [r2 j (by omega) hne, ih j hj hne]
      · simp -dsimp
        rw [r3]
        simp
    · have e : y1 = [] := List.length_eq_zero_iff.1 (by omega)
      subst e
      simp -dsimp [i0, i1, i2, i3, i4, i18, i20, i24, c1, c2]
      refine ⟨by simp -dsimp [i0], by simp -dsimp [i1], by simp -dsimp [i2], by simp -dsimp [i3], by simp -dsimp [i4], by simp -dsimp [i18], by simp -dsimp [i20], by simp -dsimp [i24], inx, ih, ?_⟩
      simp -dsimp [ib]
  · have e : x2 = [] := List.length_eq_zero_iff.1 (by omega)
    subst e
    simp -dsimp [i0, i1, i2, i3, i4, i18, i20, i24, c1]
    refine ⟨by simp -dsimp [i0], by simp -dsimp [i1], by simp -dsimp [i2], by simp -dsimp [i3], by simp -dsimp [i4], by simp -dsimp [i18], by simp -dsimp [i20], by simp -dsimp [i24], inx, ih, ?_⟩
    simp -dsimp [ib]
theorem t2_ex (hid : id < nx) (l0 : p.length = a) (l1 : a + x1.length = c) (l2 : c + y1.length = mid) (s1 : Srt x1) (s2 : Srt y1)
    (IH : 0 < x1.length → 0 < y1.length → ∀ (k : Nat) (g : Hp), g id = rowB ver (p ++ (x1 ++ (y1 ++ (x2 ++ (y2 ++ q))))) → id < k → SymC id ver nn cap k g p x1 y1 (x2 ++ (y2 ++ q)))
    (H : MD id ver nn cap a m b nx h mid c ed (p ++ (x1 ++ (y1 ++ (x2 ++ (y2 ++ q))))) t) : W Try.prog T2 (fun e s => e = .norm ∧ ∃ z1, z1.Perm (x1 ++ y1) ∧ Srt z1 ∧ MD id ver nn cap a m b nx h mid c ed (p ++ (z1 ++ (x2 ++ (y2 ++ q)))) s) t ⟨⟩ ⟨⟩ := by
  obtain ⟨i0, i1, i2, i3, i4, i18, i20, i24, inx, ih, ib⟩ := H
  unfold T2
  by_cases c1 : a < c
  · by_cases c2 : c < mid
    · have hr := IH (by omega) (by omega) t.nx t.h ib (by omega)
      rw [SymC, l0, l1, l2] at hr
      simp -dsimp [i0, i1, i2, i3, i4, i18, i20, i24, c1, c2]
      refine shr_ex hr ?_
      rintro v h' nx' ⟨r1, r2, l', ⟨z, hz, hs, rfl⟩, r3⟩
      simp -dsimp
      refine ⟨z, hz, hs, by simp -dsimp [i0], by simp -dsimp [i1], by simp -dsimp [i2], by simp -dsimp [i3], by simp -dsimp [i4], by simp -dsimp [i18], by simp -dsimp [i20], by simp -dsimp [i24], by simp -dsimp; omega, fun j hj hne => ?_, ?_⟩
      · simp -dsimp
        rw [r2 j (by omega) hne, ih j hj hne]
      · simp -dsimp
        rw [r3]
    · have e : y1 = [] := List.length_eq_zero_iff.1 (by omega)
      subst e
      simp -dsimp [i0, i1, i2, i3, i4, i18, i20, i24, c1, c2]
      refine ⟨x1, by simp, s1, by simp -dsimp [i0], by simp -dsimp [i1], by simp -dsimp [i2], by simp -dsimp [i3], by simp -dsimp [i4], by simp -dsimp [i18], by simp -dsimp [i20], by simp -dsimp [i24], inx, ih, ?_⟩
      simp -dsimp [ib]
  · have e : x1 = [] := List.length_eq_zero_iff.1 (by omega)
    subst e
    simp -dsimp [i0, i1, i2, i3, i4, i18, i20, i24, c1]
    refine ⟨y1, by simp, s2, by simp -dsimp [i0], by simp -dsimp [i1], by simp -dsimp [i2], by simp -dsimp [i3], by simp -dsimp [i4], by simp -dsimp [i18], by simp -dsimp [i20], by simp -dsimp [i24], inx, ih, ?_⟩
    simp -dsimp [ib]
theorem t3_ex (hid : id < nx) (l0 : (p ++ z1).length = mid) (l1 : mid + x2.length = ed) (l2 : ed + y2.length = b) (s1 : Srt x2) (s2 : Srt y2)
    (IH : 0 < x2.length → 0 < y2.length → ∀ (k : Nat) (g : Hp), g id = rowB ver ((p ++ z1) ++ (x2 ++ (y2 ++ q))) → id < k → SymC id ver nn cap k g (p ++ z1) x2 y2 q)
    (H : MD id ver nn cap a m b nx h mid c ed (p ++ (z1 ++ (x2 ++ (y2 ++ q)))) t) : W Try.prog T3 (fun e s => e = .norm ∧ ∃ z2, z2.Perm (x2 ++ y2) ∧ Srt z2 ∧ MD id ver nn cap a m b nx h mid c ed (p ++ (z1 ++ (z2 ++ q))) s) t ⟨⟩ ⟨⟩ := by
  obtain ⟨i0, i1, i2, i3, i4, i18, i20, i24, inx, ih, ib⟩ := H
  unfold T3
  by_cases c1 : mid < ed
  · by_cases c2 : ed < b
    · have hr := IH (by omega) (by omega) t.nx t.h (by rw [ib]; simp) (by omega)
      rw [SymC, l0, l1, l2] at hr
      simp -dsimp [i0, i1, i2, i3, i4, i18, i20, i24, c1, c2]
      refine shr_ex hr ?_
      rintro v h' nx' ⟨r1, r2, l', ⟨z, hz, hs, rfl⟩, r3⟩
      simp -dsimp
      refine ⟨z, hz, hs, by simp -dsimp [i0], by simp -dsimp [i1], by simp -dsimp [i2], by simp -dsimp [i3], by simp -dsimp [i4], by simp -dsimp [i18], by simp -dsimp [i20], by simp -dsimp [i24], by simp -dsimp; omega, fun j hj hne => ?_, ?_⟩
      · simp -dsimp
        rw [r2 j (by omega) hne, ih j hj hne]
      · simp -dsimp
        rw [r3]
        simp
    · have e : y2 = [] := List.length_eq_zero_iff.1 (by omega)
      subst e
      simp -dsimp [i0, i1, i2, i3, i4, i18, i20, i24, c1, c2]
      refine ⟨x2, by simp, s1, by simp -dsimp [i0], by simp -dsimp [i1], by simp -dsimp [i2], by simp -dsimp [i3], by simp -dsimp [i4], by simp -dsimp [i18], by simp -dsimp [i20], by simp -dsimp [i24], inx, ih, ?_⟩
      simp -dsimp [ib]
  · have e : x2 = [] := List.length_eq_zero_iff.1 (by omega)
    subst e
    simp -dsimp [i0, i1, i2, i3, i4, i18, i20, i24, c1]
    refine ⟨y2, by simp, s2, by simp -dsimp [i0], by simp -dsimp [i1], by simp -dsimp [i2], by simp -dsimp [i3], by simp -dsimp [i4], by simp -dsimp [i18], by simp -dsimp [i20], by simp -dsimp [i24], inx, ih, ?_⟩
    simp -dsimp [ib]
end
end Go.Proofs.P3
end
section
set_option linter.unusedVariables false
set_option linter.unusedSimpArgs false
set_option maxRecDepth 10000
set_option maxHeartbeats 8000000
namespace Go.Proofs.P3
open Go.Ex
theorem sym_ex : ∀ (N : Nat) {id ver nn : Nat} {cap : Option Nat} {nx : Nat} {h : Hp} {p x y q : List Mark}, x.length + y.length ≤ N → SymH id ver nn nx h p x y q → SymC id ver nn cap nx h p x y q := by
  intro N
  induction N with
  | zero => intro id ver nn cap nx h p x y q hN H; have := H.x0; omega
  | succ N IH =>
    intro id ver nn cap nx h p x y q hN H
    by_cases x1 : x.length = 1
    · obtain ⟨e, rfl⟩ := List.length_eq_one_iff.1 x1
      exact sym_x1 H
    by_cases y1 : y.length = 1
    · obtain ⟨e, rfl⟩ := List.length_eq_one_iff.1 y1
      exact sym_y1 H x1
    obtain ⟨x0, y0, sx, sy, ok, hb, hid, hn, hl⟩ := H
    have hrow : (p ++ (x ++ (y ++ q))).length = nn := by simp; omega
    have rx : ∀ k, k < x.length → mAt (p ++ (x ++ (y ++ q))) (p.length + k) = mAt x k := fun k hk => row_x rfl hk
    have ry : ∀ k, k < y.length → mAt (p ++ (x ++ (y ++ q))) (p.length + x.length + k) = mAt y k := fun k hk => row_y rfl hk
    have hok : ∀ k, p.length ≤ k → k < p.length + x.length + y.length → markOk (mAt (p ++ (x ++ (y ++ q))) k) := fun k h1 h2 => by
      by_cases c : k < p.length + x.length
      · have := rx (k - p.length) (by omega)
        rw [show p.length + (k - p.length) = k by omega] at this
        rw [this]
        exact ok _ (List.mem_append_left _ (mAt_mem (by omega)))
      · have := ry (k - (p.length + x.length)) (by omega)
        rw [show p.length + x.length + (k - (p.length + x.length)) = k by omega] at this
        rw [this]
        exact ok _ (List.mem_append_right _ (mAt_mem (by omega)))
    refine SEx.of hm h140 (of_decide_eq_true rfl) ?_
    unfold c140
    have w1 : IntKind.i64.wrap (((p.length + x.length : Nat) : Int) - (p.length : Int)) = (x.length : Int) := by rw [w_i64 (by omega) (by omega)]; omega
    have w2 : IntKind.i64.wrap (((p.length + x.length + y.length : Nat) : Int) - ((p.length + x.length : Nat) : Int)) = (y.length : Int) := by rw [w_i64 (by omega) (by omega)]; omega
    have x1' : ¬ (x.length : Int) = 1 := by omega
    have y1' : ¬ (y.length : Int) = 1 := by omega
    have ha0 : p.length = p.length := rfl
    generalize hm0 : p.length + x.length = m at *
    generalize hb0 : m + y.length = b at *
    generalize haa : p.length = a at *
    generalize hR : p ++ (x ++ (y ++ q)) = row at *
    obtain ⟨mid, hmid⟩ : ∃ mid, mid = (a + b) / 2 := ⟨_, rfl⟩
    have hw1 : IntKind.i64.wrap ((a : Int) + (b : Int)) = (a : Int) + (b : Int) := IntWalk.i64_in _ (by omega)
    have hw2 : IntKind.u64.wrap ((a : Int) + (b : Int)) = (a : Int) + (b : Int) := IntWalk.u64_in _ (by omega)
    have hfd : ((a : Int) + (b : Int)).fdiv (2 ^ min 1 IntKind.u64.bits) = (mid : Int) := by
      have : (2 : Int) ^ min 1 IntKind.u64.bits = 2 := by decide
      rw [this, Int.fdiv_eq_ediv_of_nonneg _ (by omega)]
      omega
    have hw3 : IntKind.i64.wrap (mid : Int) = (mid : Int) := IntWalk.i64_in _ (by omega)
    obtain ⟨nN, hnN⟩ : ∃ nN, nN = mid + m := ⟨_, rfl⟩
    have hw4 : IntKind.i64.wrap ((mid : Int) + (m : Int)) = (nN : Int) := by rw [w_i64 (by omega) (by omega)]; omega
    have hw5 : IntKind.i64.wrap ((nN : Int) - 1) = ((nN - 1 : Nat) : Int) := by rw [w_i64 (by omega) (by omega)]; omega
    have hpp : nN - 1 = mid + m - 1 := by omega
    have fin : ∀ (lo hi : Nat), (mid < m ∧ lo = mid + m - b ∧ hi = mid ∨ m ≤ mid ∧ lo = a ∧ hi = m) → ∀ t : St, MB2 id ver nn cap a m b nx h row mid nN (nN - 1) t → t.t 20 = .int .i64 lo → t.t 21 = .int .i64 hi →
        LP Try.prog l140_4 (fun e s => e = .exit 8 ∧ ∃ c, Cut x y a m b mid c (mid - c) ∧ MB2 id ver nn cap a m b nx h row mid nN (nN - 1) s ∧ s.t 20 = .int .i64 c) t ⟨⟩ ⟨⟩ := by
      intro lo hi hlo t hB i20 i21
      refine LP_cut _ (search2 (id := id) (ver := ver) (nn := nn) (cap := cap) (a := a) (m := m) (b := b) (nx := nx) (h := h) (row := row) (lo := lo) (hi := hi) (mid := mid) (nN := nN) (pp := nN - 1) hid hrow hl (by omega) (by omega) (by omega) (by omega) (fun c c1 c2 => by omega) hok (fun k k' h1 h2 h3 h4 => ?_) (n := hi - lo) ⟨lo, hi, rfl, by omega, by omega, by omega, fun k h1 h2 => by omega, fun k h1 h2 => by omega, i20, i21, hB⟩) ?_
      · have e1 := rx (k - a) (by omega)
        have e2 := rx (k' - a) (by omega)
        have e3 := ry (nN - 1 - k - m) (by omega)
        have e4 := ry (nN - 1 - k' - m) (by omega)
        rw [show a + (k - a) = k by omega] at e1
        rw [show a + (k' - a) = k' by omega] at e2
        rw [show m + (nN - 1 - k - m) = nN - 1 - k by omega] at e3
        rw [show m + (nN - 1 - k' - m) = nN - 1 - k' by omega] at e4
        rw [e2, e4] at h4
        rw [e1, e3]
        have := srt_le sx (i := k - a) (j := k' - a) (by omega) (by omega)
        have := srt_le sy (i := nN - 1 - k' - m) (j := nN - 1 - k - m) (by omega) (by omega)
        omega
      · rintro e s ⟨rfl, c, hf, j20, hB'⟩
        rw [hpp] at hf
        exact ⟨rfl, c, cut_of sx sy hm0 hb0 hmid rx ry hlo hf, hB', j20⟩
    have tail : ∀ (c : Nat) (t : St), Cut x y a m b mid c (mid - c) → MB2 id ver nn cap a m b nx h row mid nN (nN - 1) t → t.t 20 = .int .i64 c →
        W Try.prog T0 (fun e s => e = .norm ∧ RowQ id ver nx h (fun l' => ∃ z, z.Perm (x ++ y) ∧ Srt z ∧ l' = p ++ (z ++ q)) (.tup []) s.h s.nx) t ⟨⟩ ⟨⟩ := by
      intro c t hC hB t20
      obtain ⟨⟨t0, t1, t2, t3, t4, inx, ih, ib⟩, t18, t19, t22⟩ := hB
      obtain ⟨k0, k1, k2, k3, k4, k5⟩ := hC
      generalize hd : mid - c = d at *
      have hw7 : IntKind.i64.wrap ((nN : Int) - (c : Int)) = ((m + d : Nat) : Int) := by rw [w_i64 (by omega) (by omega)]; omega
      have hx : x.take (c - a) ++ x.drop (c - a) = x := List.take_append_drop _ _
      have hy : y.take d ++ y.drop d = y := List.take_append_drop _ _
      have lx : (x.take (c - a)).length = c - a := by rw [List.length_take]; omega
      have ly : (y.take d).length = d := by rw [List.length_take]; omega
      have lx2 : (x.drop (c - a)).length = m - c := by rw [List.length_drop]; omega
      have ly2 : (y.drop d).length = b - (m + d) := by rw [List.length_drop]; omega
      generalize x.take (c - a) = X1 at *
      generalize x.drop (c - a) = X2 at *
      generalize y.take d = Y1 at *
      generalize y.drop d = Y2 at *
      subst hx
      subst hy
      have sx1 := (List.pairwise_append.1 sx).1
      have sx2 := (List.pairwise_append.1 sx).2.1
      have sy1 := (List.pairwise_append.1 sy).1
      have sy2 := (List.pairwise_append.1 sy).2.1
      unfold T0
      rw [wpA_seq]
      simp -dsimp [-wpA_seq, t19, t20, hw7]
      rw [wpA_seq]
      refine W_cut _ (t1_ex (p := p) (x1 := X1) (x2 := X2) (y1 := Y1) (y2 := Y2) (q := q) (mid := mid) (c := c) (ed := m + d) (a := a) (m := m) (b := b) (nn := nn) (nx := nx) (h := h) (id := id) (ver := ver) (cap := cap) hid hl haa (by omega) (by omega) (by omega) (by omega) hn ⟨by simp -dsimp [t0], by simp -dsimp [t1], by simp -dsimp [t2], by simp -dsimp [t3], by simp -dsimp [t4], by simp -dsimp [t18], by simp -dsimp [t20], by simp -dsimp, inx, ih, by rw [hR]; exact ib⟩) ?_
      intro t hM
      rw [wpA_seq]
      refine W_cut _ (t2_ex hid haa (by omega) (by omega) sx1 sy1 (fun h1 h2 k g hg hk => IH (by simp at hN; omega) ⟨h1, h2, sx1, sy1, fun z hz => ok z (by simp at hz ⊢; rcases hz with hz | hz <;> simp [hz]), hg, hk, by simp; omega, hl⟩) hM) ?_
      rintro t ⟨z1, hp1, hs1, hM⟩
      have hz1 := hp1.length_eq
      rw [List.length_append] at hz1
      refine wpA_mono _ ?_ (t3_ex hid (by simp; omega) (by omega) (by omega) sx2 sy2 (fun h1 h2 k g hg hk => IH (by simp at hN; omega) ⟨h1, h2, sx2, sy2, fun z hz => ok z (by simp at hz ⊢; rcases hz with hz | hz <;> simp [hz]), hg, hk, by simp; omega, hl⟩) hM)
      rintro e t ⟨rfl, z2, hp2, hs2, hM⟩
      have hj := srt_join sx sy k4 k5 hp1 hp2 hs1 hs2
      exact ⟨rfl, hM.inx, hM.ih, _, ⟨z1 ++ z2, hj.2, hj.1, rfl⟩, by rw [hM.ib]; simp⟩
    by_cases cm : mid < m
    · have hw6 : IntKind.i64.wrap ((nN : Int) - (b : Int)) = ((mid + m - b : Nat) : Int) := by rw [w_i64 (by omega) (by omega)]; omega
      have hf := fin (mid + m - b) mid (.inl ⟨cm, rfl, rfl⟩)
      generalize hlo : mid + m - b = lo at *
      simp -dsimp [w1, x1, x1', w2, y1, y1', hw1, hw2, hfd, hw3, hw4, cm, hw6, hw5]
      refine LP_cut _ (hf _ ⟨⟨by simp -dsimp, by simp -dsimp, by simp -dsimp, by simp -dsimp, by simp -dsimp, by simp -dsimp, fun j _ _ => by simp -dsimp, by simp -dsimp [hb]⟩, by simp -dsimp, by simp -dsimp, by simp -dsimp⟩ (by simp -dsimp) (by simp -dsimp)) ?_
      rintro e t ⟨rfl, c, hC, hB, t20⟩
      simp -dsimp [-wpA_seq]
      refine wpA_mono _ ?_ (tail c t hC hB t20)
      rintro e t ⟨rfl, hQ⟩
      simp -dsimp
      exact hQ
    · have hf := fin a m (.inr ⟨by omega, rfl, rfl⟩)
      simp -dsimp [w1, x1, x1', w2, y1, y1', hw1, hw2, hfd, hw3, hw4, cm, hw5]
      refine LP_cut _ (hf _ ⟨⟨by simp -dsimp, by simp -dsimp, by simp -dsimp, by simp -dsimp, by simp -dsimp, by simp -dsimp, fun j _ _ => by simp -dsimp, by simp -dsimp [hb]⟩, by simp -dsimp, by simp -dsimp, by simp -dsimp⟩ (by simp -dsimp) (by simp -dsimp)) ?_
      rintro e t ⟨rfl, c, hC, hB, t20⟩
      simp -dsimp [-wpA_seq]
      refine wpA_mono _ ?_ (tail c t hC hB t20)
      rintro e t ⟨rfl, hQ⟩
      simp -dsimp
      exact hQ
end Go.Proofs.P3
end
section
set_option linter.unusedVariables false
set_option linter.unusedSimpArgs false
set_option maxRecDepth 10000
set_option maxHeartbeats 8000000
namespace Go.Proofs.P3
open Go.Ex
/-- Each block of s elements is sorted. -/
def Bl (s : Nat) (l : List Mark) : Prop := ∀ k, Srt ((l.drop (k * s)).take s)
theorem srt_nil : Srt [] := List.Pairwise.nil
theorem bl_nil (s : Nat) : Bl s [] := fun k => by simp [srt_nil]
theorem bl_head {s : Nat} {l : List Mark} (h : Bl s l) : Srt (l.take s) ∧ Bl s (l.drop s) := by
  refine ⟨by have := h 0; simpa using this, fun k => ?_⟩
  have := h (k + 1)
  rw [List.drop_drop, show s + k * s = (k + 1) * s by rw [Nat.add_mul]; omega]
  exact this
theorem bl_all {s : Nat} {l : List Mark} (h : Bl s l) (hl : l.length ≤ s) : Srt l := by
  have := (bl_head h).1
  rwa [List.take_of_length_le hl] at this
theorem bl_snoc {s j : Nat} {u z : List Mark} (h : Bl s u) (hu : u.length = j * s) (hz : Srt z) (hl : z.length ≤ s) : Bl s (u ++ z) := by
  intro k
  by_cases c : k < j
  · have h1 : (k + 1) * s ≤ j * s := Nat.mul_le_mul_right s c
    rw [Nat.add_mul, Nat.one_mul] at h1
    rw [List.drop_append_of_le_length (by omega), List.take_append_of_le_length (by rw [List.length_drop]; omega)]
    exact h k
  · have h1 : j * s ≤ k * s := Nat.mul_le_mul_right s (by omega)
    have e : (u ++ z).drop (k * s) = z.drop (k * s - u.length) := by
      rw [List.drop_append, List.drop_of_length_le (by omega), List.nil_append]
    rw [e]
    by_cases d : k = j
    · subst d
      rw [hu, Nat.sub_self, List.drop_zero, List.take_of_length_le hl]
      exact hz
    · have h2 : (j + 1) * s ≤ k * s := Nat.mul_le_mul_right s (by omega)
      rw [Nat.add_mul, Nat.one_mul] at h2
      rw [List.drop_of_length_le (by omega)]
      simp [srt_nil]
theorem mul_step (j s : Nat) : j * s + s = (j + 1) * s := by rw [Nat.add_mul, Nat.one_mul]
def SB (id ver nn : Nat) (cap : Option Nat) (nx : Nat) (h : Hp) (l row : List Mark) (t : St) : Prop := t.t 0 = .sl id ver 0 nn cap ∧ t.t 1 = .int .i64 nn ∧ t.t 2 = cmpV ∧ nx ≤ t.nx ∧ (∀ j, j < nx → j ≠ id → t.h j = h j) ∧ t.h id = rowB ver row ∧ row.Perm l
def S0I (id ver nn : Nat) (cap : Option Nat) (nx : Nat) (h : Hp) (l : List Mark) (n : Nat) (t : St) : Prop := ∃ (j : Nat) (u w : List Mark), n = w.length ∧ u.length = j * 20 ∧ Bl 20 u ∧ t.t 6 = .int .i64 20 ∧ t.t 7 = .int .i64 u.length ∧ t.t 8 = .int .i64 ((u.length + 20 : Nat) : Int) ∧ SB id ver nn cap nx h l (u ++ w) t
def S0O (id ver nn : Nat) (cap : Option Nat) (nx : Nat) (h : Hp) (l : List Mark) (e : E) (t : St) : Prop := e = .exit 0 ∧ ∃ (j : Nat) (u w : List Mark), w.length < 20 ∧ u.length = j * 20 ∧ Bl 20 u ∧ t.t 6 = .int .i64 20 ∧ t.t 7 = .int .i64 u.length ∧ SB id ver nn cap nx h l (u ++ w) t
theorem stable0 {id ver nn : Nat} {cap : Option Nat} {nx : Nat} {h : Hp} {l : List Mark} (hid : id < nx) (hn : l.length = nn) (hl : nn ≤ 5000) (ho : ∀ z ∈ l, markOk z) {n : Nat} {t : St} (hI : S0I id ver nn cap nx h l n t) :
    LP Try.prog l124_0 (S0O id ver nn cap nx h l) t ⟨⟩ ⟨⟩ := by
  refine loop_dec (S0I id ver nn cap nx h l) n hI (fun n t hI => ?_)
  obtain ⟨j, u, w, hn', hu, hB, i6, i7, i8, i0, i1, i2, inx, ih, ib, hp⟩ := hI
  have hlen : u.length + w.length = nn := by rw [← hn, ← hp.length_eq]; simp
  unfold l124_0
  by_cases c : u.length + 20 ≤ nn
  · have hw : w.take 20 ++ w.drop 20 = w := List.take_append_drop _ _
    have l1 : (w.take 20).length = 20 := by rw [List.length_take]; omega
    have l2 : (w.drop 20).length = w.length - 20 := by rw [List.length_drop]
    generalize w.take 20 = x at *
    generalize w.drop 20 = q at *
    subst hw
    have hs := insertion_ex (cap := cap) (nx := t.nx) (p := u) (x := x) (q := q) (nn := nn) ib (by omega) (by omega) hl (fun z hz => ho z (hp.mem_iff.1 (by simp [hz])))
    rw [l1] at hs
    generalize hua : u.length = ua at *
    have c' : ((ua + 20 : Nat) : Int) ≤ (nn : Int) := by omega
    have w1 : IntKind.i64.wrap (((ua + 20 : Nat) : Int) + 20) = ((ua + 20 + 20 : Nat) : Int) := by rw [w_i64 (by omega) (by omega)]; omega
    generalize hub : ua + 20 = ub at *
    simp -dsimp [i6, i7, i8, i0, i1, i2, c]
    refine shr_ex hs ?_
    rintro v h' nx' ⟨r1, r2, l', ⟨z, hz, hsz, rfl⟩, r3⟩
    simp -dsimp [i6, i7, i8, i0, i1, i2, w1]
    have lz : z.length = 20 := by rw [hz.length_eq, l1]
    refine ⟨q.length, by rw [hn']; simp; omega, j + 1, u ++ z, q, rfl, by simp; omega, bl_snoc hB (j := j) (by omega) hsz (by omega), by simp -dsimp [i6], by simp -dsimp; omega, by simp -dsimp; omega, by simp -dsimp [i0], by simp -dsimp [i1], by simp -dsimp [i2], by simp -dsimp; omega, fun j hj hne => ?_, ?_, ?_⟩
    · simp -dsimp
      rw [r2 j (by omega) hne, ih j hj hne]
    · simp -dsimp
      rw [r3]
      try simp
    · refine List.Perm.trans ?_ hp
      simp only [List.append_assoc]
      exact (hz.append_right q).append_left u
  · have c' : ¬ ((u.length + 20 : Nat) : Int) ≤ (nn : Int) := by omega
    generalize hub : u.length + 20 = ub at *
    simp -dsimp [i6, i7, i8, i0, i1, i2, c]
    exact ⟨rfl, j, u, w, by omega, hu, hB, by simp -dsimp [i6], by simp -dsimp [i7], by simp -dsimp [i0], by simp -dsimp [i1], by simp -dsimp [i2], inx, ih, ib, hp⟩
/-- The blocks doubled. -/
def S1I (id ver nn : Nat) (cap : Option Nat) (nx : Nat) (h : Hp) (l : List Mark) (s : Nat) (n : Nat) (t : St) : Prop := ∃ (j : Nat) (u w : List Mark), n = w.length ∧ u.length = j * (2 * s) ∧ Bl (2 * s) u ∧ Bl s w ∧ t.t 6 = .int .i64 s ∧ t.t 7 = .int .i64 u.length ∧ t.t 8 = .int .i64 ((u.length + 2 * s : Nat) : Int) ∧ SB id ver nn cap nx h l (u ++ w) t
def S1O (id ver nn : Nat) (cap : Option Nat) (nx : Nat) (h : Hp) (l : List Mark) (s : Nat) (e : E) (t : St) : Prop := e = .exit 4 ∧ ∃ (j : Nat) (u w : List Mark), w.length < 2 * s ∧ u.length = j * (2 * s) ∧ Bl (2 * s) u ∧ Bl s w ∧ t.t 6 = .int .i64 s ∧ t.t 7 = .int .i64 u.length ∧ SB id ver nn cap nx h l (u ++ w) t
theorem stable1 {id ver nn : Nat} {cap : Option Nat} {nx : Nat} {h : Hp} {l : List Mark} {s : Nat} (hid : id < nx) (hn : l.length = nn) (hl : nn ≤ 5000) (hs0 : 0 < s) (hs1 : s < nn) (ho : ∀ z ∈ l, markOk z) {n : Nat} {t : St} (hI : S1I id ver nn cap nx h l s n t) :
    LP Try.prog l124_1 (S1O id ver nn cap nx h l s) t ⟨⟩ ⟨⟩ := by
  refine loop_dec (S1I id ver nn cap nx h l s) n hI (fun n t hI => ?_)
  obtain ⟨j, u, w, hn', hu, hB, hBw, i6, i7, i8, i0, i1, i2, inx, ih, ib, hp⟩ := hI
  have hlen : u.length + w.length = nn := by rw [← hn, ← hp.length_eq]; simp
  unfold l124_1
  by_cases c : u.length + 2 * s ≤ nn
  · have h1 := bl_head hBw
    have h2 := bl_head h1.2
    have hw : w.take s ++ ((w.drop s).take s ++ (w.drop s).drop s) = w := by rw [List.take_append_drop, List.take_append_drop]
    have l1 : (w.take s).length = s := by rw [List.length_take]; omega
    have l2 : ((w.drop s).take s).length = s := by rw [List.length_take, List.length_drop]; omega
    have l3 : ((w.drop s).drop s).length = w.length - 2 * s := by rw [List.length_drop, List.length_drop]; omega
    obtain ⟨sx, -⟩ := h1
    obtain ⟨sy, hBq⟩ := h2
    generalize (w.drop s).take s = y at *
    generalize (w.drop s).drop s = q at *
    generalize w.take s = x at *
    subst hw
    have hs := sym_ex (x.length + y.length) (cap := cap) (nx := t.nx) (h := t.h) (p := u) (x := x) (y := y) (q := q) (id := id) (ver := ver) (nn := nn) (Nat.le_refl _) ⟨by omega, by omega, sx, sy, fun z hz => ho z (hp.mem_iff.1 (by simp at hz ⊢; rcases hz with hz | hz <;> simp [hz])), ib, by omega, by omega, hl⟩
    rw [SymC, l1, l2] at hs
    generalize hua : u.length = ua at *
    have c' : ((ua + 2 * s : Nat) : Int) ≤ (nn : Int) := by omega
    have e2 : ua + s + s = ua + 2 * s := by omega
    rw [e2] at hs
    have w0 : IntKind.i64.wrap ((ua : Int) + (s : Int)) = ((ua + s : Nat) : Int) := by rw [w_i64 (by omega) (by omega)]; omega
    have w1 : IntKind.i64.wrap (2 * (s : Int)) = ((2 * s : Nat) : Int) := by rw [w_i64 (by omega) (by omega)]; omega
    generalize hS : 2 * s = S at *
    have w2 : IntKind.i64.wrap (((ua + S : Nat) : Int) + (S : Int)) = ((ua + S + S : Nat) : Int) := by rw [w_i64 (by omega) (by omega)]; omega
    generalize hub : ua + S = ub at *
    generalize hus : ua + s = us at *
    simp -dsimp [i6, i7, i8, i0, i1, i2, c, w0]
    refine shr_ex hs ?_
    rintro v h' nx' ⟨r1, r2, l', ⟨z, hz, hsz, rfl⟩, r3⟩
    simp -dsimp [i6, i7, i8, i0, i1, i2, w1, w2]
    have lz : z.length = S := by rw [hz.length_eq, List.length_append]; omega
    refine ⟨q.length, by rw [hn']; simp; omega, j + 1, u ++ z, q, rfl, by rw [List.length_append, ← mul_step, hS]; omega, by rw [hS]; exact bl_snoc hB (j := j) (by omega) hsz (by omega), hBq, by simp -dsimp [i6], by simp -dsimp; omega, by simp -dsimp; omega, by simp -dsimp [i0], by simp -dsimp [i1], by simp -dsimp [i2], by simp -dsimp; omega, fun j hj hne => ?_, ?_, ?_⟩
    · simp -dsimp
      rw [r2 j (by omega) hne, ih j hj hne]
    · simp -dsimp
      rw [r3]
      try simp
    · refine List.Perm.trans ?_ hp
      have := (hz.append_right q).append_left u
      simpa only [List.append_assoc] using this
  · generalize hub : u.length + 2 * s = ub at *
    simp -dsimp [i6, i7, i8, i0, i1, i2, c]
    exact ⟨rfl, j, u, w, by omega, hu, hB, hBw, by simp -dsimp [i6], by simp -dsimp [i7], by simp -dsimp [i0], by simp -dsimp [i1], by simp -dsimp [i2], inx, ih, ib, hp⟩
end Go.Proofs.P3
end
section
set_option linter.unusedVariables false
set_option linter.unusedSimpArgs false
set_option maxRecDepth 10000
set_option maxHeartbeats 8000000
namespace Go.Proofs.P3
open Go.Ex
def S2I (id ver nn : Nat) (cap : Option Nat) (nx : Nat) (h : Hp) (l : List Mark) (n : Nat) (t : St) : Prop := ∃ (s : Nat) (row : List Mark), n = nn - s ∧ 0 < s ∧ s ≤ 10020 ∧ Bl s row ∧ t.t 6 = .int .i64 s ∧ SB id ver nn cap nx h l row t
def S2O (id ver nn : Nat) (cap : Option Nat) (nx : Nat) (h : Hp) (l : List Mark) (e : E) (t : St) : Prop := e = .exit 2 ∧ ∃ row, Srt row ∧ SB id ver nn cap nx h l row t
theorem stable2 {id ver nn : Nat} {cap : Option Nat} {nx : Nat} {h : Hp} {l : List Mark} (hid : id < nx) (hn : l.length = nn) (hl : nn ≤ 5000) (ho : ∀ z ∈ l, markOk z) {n : Nat} {t : St} (hI : S2I id ver nn cap nx h l n t) :
    LP Try.prog l124_2 (S2O id ver nn cap nx h l) t ⟨⟩ ⟨⟩ := by
  refine loop_dec (S2I id ver nn cap nx h l) n hI (fun n t hI => ?_)
  obtain ⟨s, row, hn', hs0, hs1, hB, i6, i0, i1, i2, inx, ih, ib, hp⟩ := hI
  have hlen : row.length = nn := by rw [← hn, ← hp.length_eq]
  unfold l124_2
  by_cases c : s < nn
  · have w1 : IntKind.i64.wrap (2 * (s : Int)) = ((2 * s : Nat) : Int) := by rw [w_i64 (by omega) (by omega)]; omega
    have w3 : IntKind.i64.wrap ((s : Int) * 2) = ((2 * s : Nat) : Int) := by rw [w_i64 (by omega) (by omega)]; omega
    generalize hS : 2 * s = S at *
    simp -dsimp [i6, i1, c, w1]
    refine LP_cut _ (stable1 (s := s) (ver := ver) (cap := cap) (nx := nx) (h := h) (l := l) hid hn hl hs0 c ho (n := row.length) ⟨0, [], row, rfl, by simp, bl_nil _, hB, by simp -dsimp [i6], by simp -dsimp, by simp -dsimp [hS], by simp -dsimp [i0], by simp -dsimp [i1], by simp -dsimp [i2], by simp -dsimp; exact inx, fun j hj hne => by simp -dsimp; exact ih j hj hne, by simp -dsimp; exact ib, by simpa using hp⟩) ?_
    rintro e t ⟨rfl, j, u, w, hw, hu, hBu, hBw, i6, i7, i0, i1, i2, inx, ih, ib, hp⟩
    have hlen : u.length + w.length = nn := by rw [← hn, ← hp.length_eq]; simp
    rw [hS] at hu hBu hw
    have w0 : IntKind.i64.wrap ((u.length : Int) + (s : Int)) = ((u.length + s : Nat) : Int) := by rw [w_i64 (by omega) (by omega)]; omega
    by_cases d : u.length + s < nn
    · have hw2 : w.take s ++ w.drop s = w := List.take_append_drop _ _
      have l1 : (w.take s).length = s := by rw [List.length_take]; omega
      have l2 : (w.drop s).length = w.length - s := by rw [List.length_drop]
      obtain ⟨sx, sy⟩ := bl_head hBw
      have sy := bl_all sy (by omega)
      generalize w.take s = x at *
      generalize w.drop s = y at *
      subst hw2
      have hs := sym_ex (x.length + y.length) (cap := cap) (nx := t.nx) (h := t.h) (p := u) (x := x) (y := y) (q := []) (id := id) (ver := ver) (nn := nn) (Nat.le_refl _) ⟨by omega, by simp at hlen; omega, sx, sy, fun z hz => ho z (hp.mem_iff.1 (by simp at hz ⊢; rcases hz with hz | hz <;> simp [hz])), by rw [ib]; simp, by omega, by simp at hlen ⊢; omega, hl⟩
      rw [SymC, l1] at hs
      have e2 : u.length + s + y.length = nn := by simp at hlen; omega
      rw [e2] at hs
      generalize hua : u.length = ua at *
      generalize hus : ua + s = us at *
      simp -dsimp [i6, i7, i0, i1, i2, w0, d]
      refine shr_ex hs ?_
      rintro v h' nx' ⟨r1, r2, l', ⟨z, hz, hsz, rfl⟩, r3⟩
      have lz : z.length ≤ S := by rw [hz.length_eq]; omega
      simp -dsimp [i6, w3]
      refine ⟨nn - S, by omega, S, u ++ z, rfl, by omega, by omega, bl_snoc hBu (j := j) (by omega) hsz lz, by simp -dsimp, by simp -dsimp [i0], by simp -dsimp [i1], by simp -dsimp [i2], by simp -dsimp; omega, fun j hj hne => ?_, ?_, ?_⟩
      · simp -dsimp
        rw [r2 j (by omega) hne, ih j hj hne]
      · simp -dsimp
        rw [r3]
        simp
      · exact List.Perm.trans (hz.append_left u) hp
    · have sw := bl_all hBw (by omega)
      generalize hus : u.length + s = us at *
      simp -dsimp [i6, i7, i0, i1, i2, w0, d, w3]
      refine ⟨nn - S, by omega, S, u ++ w, rfl, by omega, by omega, bl_snoc hBu (j := j) (by omega) sw (by omega), by simp -dsimp, by simp -dsimp [i0], by simp -dsimp [i1], by simp -dsimp [i2], inx, ih, ib, hp⟩
  · simp -dsimp [i6, i1, c]
    exact ⟨rfl, row, bl_all hB (by omega), by simp -dsimp [i0], by simp -dsimp [i1], by simp -dsimp [i2], inx, ih, ib, hp⟩
theorem stable_ex {h : Hp} {id ver nx : Nat} {l : List Mark} {nn : Nat} {cap : Option Nat} (hb : h id = rowB ver l) (hid : id < nx) (hn : l.length = nn) (hl : nn ≤ 5000) (ho : ∀ z ∈ l, markOk z) :
    SEx Try.prog 124 [.sl id ver 0 nn cap, .int .i64 nn, cmpV] h nx (RowQ id ver nx h fun l' => l'.Perm l ∧ Srt l') := by
  refine SEx.of hm h124 (of_decide_eq_true rfl) ?_
  unfold c124
  simp -dsimp
  refine LP_cut _ (stable0 (ver := ver) (cap := cap) (nx := nx) (h := h) (l := l) hid hn hl ho (n := l.length) ⟨0, [], l, rfl, by simp, bl_nil _, by simp -dsimp, by simp -dsimp, by simp -dsimp, by simp -dsimp, by simp -dsimp, by simp -dsimp, by simp -dsimp, fun j _ _ => by simp -dsimp, by simp -dsimp; exact hb, .refl _⟩) ?_
  rintro e t ⟨rfl, j, u, w, hw, hu, hBu, i6, i7, i0, i1, i2, inx, ih, ib, hp⟩
  have hlen : u.length + w.length = nn := by rw [← hn, ← hp.length_eq]; simp
  have hs := insertion_ex (id := id) (ver := ver) (cap := cap) (nx := t.nx) (h := t.h) (p := u) (x := w) (q := []) (nn := nn) (by rw [ib]; simp) (by omega) (by simp; omega) hl (fun z hz => ho z (hp.mem_iff.1 (by simp [hz])))
  rw [hlen] at hs
  simp -dsimp [i7, i0, i1, i2]
  refine shr_ex hs ?_
  rintro v h' nx' ⟨r1, r2, l', ⟨z, hz, hsz, rfl⟩, r3⟩
  simp -dsimp
  refine LP_cut _ (stable2 (ver := ver) (cap := cap) (nx := nx) (h := h) (l := l) hid hn hl ho (n := nn - 20) ⟨20, u ++ z, rfl, by omega, by omega, bl_snoc hBu (j := j) (by omega) hsz (by rw [hz.length_eq]; omega), by simp -dsimp [i6], by simp -dsimp [i0], by simp -dsimp [i1], by simp -dsimp [i2], by simp -dsimp; omega, fun j hj hne => by simp -dsimp; rw [r2 j (by omega) hne, ih j hj hne], by simp -dsimp; rw [r3]; simp, (hz.append_left u).trans hp⟩) ?_
  rintro e t ⟨rfl, row, hsr, i0, i1, i2, inx, ih, ib, hp⟩
  simp -dsimp
  exact ⟨inx, ih, row, ⟨hp, hsr⟩, ib⟩
theorem sort_ex {h : Hp} {id ver nx : Nat} {l : List Mark} {nn : Nat} {cap : Option Nat} (hb : h id = rowB ver l) (hid : id < nx) (hn : l.length = nn) (hl : nn ≤ 5000) (ho : ∀ z ∈ l, markOk z) :
    SEx Try.prog 80 [.sl id ver 0 nn cap, cmpV] h nx (RowQ id ver nx h fun l' => l'.Perm l ∧ Srt l') := by
  refine SEx.of hm h80 (of_decide_eq_true rfl) ?_
  unfold c80
  simp -dsimp
  refine shr_ex (stable_ex hb hid hn hl ho) ?_
  rintro v h' nx' ⟨r1, r2, r3⟩
  simp -dsimp
  exact ⟨r1, r2, r3⟩
end Go.Proofs.P3
end
section
set_option linter.unusedVariables false
set_option linter.unusedSimpArgs false
set_option maxRecDepth 10000
set_option maxHeartbeats 8000000
namespace Go.Proofs.P3
open Go.Ex
/-- What follows an element, equal neighbours once. -/
def cp (e : Mark) : List Mark → List Mark
  | [] => []
  | f :: r => if f = e then cp f r else f :: cp f r
def cpt : List Mark → List Mark
  | [] => []
  | e :: r => e :: cp e r
theorem putL_cons (x : V) : ∀ (vs l : List V) (n : Nat), putL (x :: l) (n + 1) vs = x :: putL l n vs
  | [], l, n => rfl
  | v :: vs, l, n => by simp only [putL, List.set_cons_succ]; rw [putL_cons x vs]
theorem putL_skip : ∀ (a l vs : List V), putL (a ++ l) a.length vs = a ++ putL l 0 vs
  | [], l, vs => rfl
  | x :: a, l, vs => by simp only [List.cons_append, List.length_cons]; rw [putL_cons, putL_skip a]
theorem putL_whole : ∀ (vs l : List V), l.length = vs.length → putL l 0 vs = vs
  | [], l, h => by simp at h; subst h; rfl
  | v :: vs, x :: l, h => by simp only [putL, List.set_cons_zero]; rw [putL_cons, putL_whole vs l (by simpa using h)]
def zm : Mark := (0, 0, 0)
theorem zeros_fl : ∀ n, zeros [.int .i64 0, .int .i64 0, .int .i64 0] n = fl markCd (List.replicate n zm)
  | 0 => rfl
  | n + 1 => by rw [List.replicate_succ, fl3, ← zeros_fl n]; rfl
theorem put_zeros (a b : List Mark) : putL (fl markCd (a ++ b)) (a.length * 3) (zeros [.int .i64 0, .int .i64 0, .int .i64 0] b.length) = fl markCd (a ++ List.replicate b.length zm) := by
  rw [zeros_fl, fl_append, fl_append, ← fl_len3 a, putL_skip, putL_whole _ _ (by rw [fl_len3, fl_len3, List.length_replicate])]
section
variable {h : Hp} {id ver k o n : Nat} {kk : IntKind} {l : List Mark} {a : Mark} {cap : Option Nat}
theorem r_ia2 {K : V → List Nat → Prop} (hb : h id = rowB ver l) (hk : k < n) : iaddrK h (.sl id ver (o * 3) n cap) (.int kk k) 3 K ⟨⟩ = K (.pt id ver ((o + k) * 3)) [id] := by
  rw [iaddr_sl hb rfl hk, Nat.add_mul]
theorem r_slc {nx : Nat} {K : V → Hp → Nat → Option (List Nat) → Option (List Nat) → Prop} (hb : h id = rowB ver l) (hk : k ≤ n) : slcK false (.sl id ver 0 n cap) (some (.int kk k)) none 3 h nx K ⟨⟩ = K (.sl id ver (k * 3) (n - k) (cap.map (· - k))) h nx (some [id]) (some []) := by
  simp only [slcK, loHi, Int.natCast_nonneg, true_and]
  rw [if_pos (by omega)]
  simp only [Int.toNat_natCast, hb, Nat.zero_add]
  rw [if_pos ⟨trivial, trivial⟩]
  rfl
theorem r_slc0 {nx : Nat} {K : V → Hp → Nat → Option (List Nat) → Option (List Nat) → Prop} (hb : h id = rowB ver l) (hk : k ≤ n) : slcK false (.sl id ver 0 n cap) none (some (.int kk k)) 3 h nx K ⟨⟩ = K (.sl id ver 0 k (cap.map (· - 0))) h nx (some [id]) (some []) := by
  simp only [slcK, loHi, Int.natCast_nonneg, true_and]
  rw [if_pos (by omega)]
  simp only [Int.toNat_natCast, hb, Nat.zero_mul, Nat.add_zero]
  rw [if_pos ⟨trivial, trivial⟩]
  rfl
end
def CoQ (id ver nx : Nat) (h : Hp) (l : List Mark) : V → Hp → Nat → Prop := fun v h' nx' => nx ≤ nx' ∧ (∀ j, j < nx → j ≠ id → h' j = h j) ∧ ∃ (z : List Mark) (cap : Option Nat), v = .sl id ver 0 (cpt l).length cap ∧ h' id = rowB ver (cpt l ++ z)
/-- After the first pair. -/
def C0I (id ver nn : Nat) (cap : Option Nat) (nx : Nat) (h : Hp) (l : List Mark) (K0 : Nat) (capK : Option Nat) (n : Nat) (t : St) : Prop := ∃ (keep mid rest : List Mark) (e : Mark), n = rest.length ∧ keep ++ cp e rest = cpt l ∧ keep.length + mid.length + 1 + rest.length = nn ∧ K0 ≤ keep.length + mid.length ∧
  t.t 0 = .sl id ver 0 nn cap ∧ t.t 3 = .int .i64 keep.length ∧ t.t 4 = .sl id ver (K0 * 3) (nn - K0) capK ∧ t.t 5 = .int .i64 ((keep.length + mid.length + 1 - K0 : Nat) : Int) ∧ nx ≤ t.nx ∧ (∀ j, j < nx → j ≠ id → t.h j = h j) ∧ t.h id = rowB ver (keep ++ (mid ++ (e :: rest)))
def C0O (id ver nn : Nat) (cap : Option Nat) (nx : Nat) (h : Hp) (l : List Mark) (e : E) (t : St) : Prop := e = .exit 2 ∧ ∃ z : List Mark, (cpt l).length + z.length = nn ∧ t.t 0 = .sl id ver 0 nn cap ∧ t.t 3 = .int .i64 (cpt l).length ∧ nx ≤ t.nx ∧ (∀ j, j < nx → j ≠ id → t.h j = h j) ∧ t.h id = rowB ver (cpt l ++ z)
theorem compact0 {id ver nn : Nat} {cap : Option Nat} {nx : Nat} {h : Hp} {l : List Mark} {K0 : Nat} {capK : Option Nat} (hid : id < nx) (hl : nn ≤ 5000) {n : Nat} {t : St} (hI : C0I id ver nn cap nx h l K0 capK n t) :
    LP Try.prog l82_0 (C0O id ver nn cap nx h l) t ⟨⟩ ⟨⟩ := by
  refine loop_dec (C0I id ver nn cap nx h l K0 capK) n hI (fun n t hI => ?_)
  obtain ⟨keep, mid, rest, e, hn', hc, hlen, hK, i0, i3, i4, i5, inx, ih, ib⟩ := hI
  unfold l82_0
  cases rest with
  | nil =>
    have c : ¬ keep.length + mid.length + 1 - K0 < nn - K0 := by simp at hlen; omega
    generalize hk2 : keep.length + mid.length + 1 - K0 = k2 at *
    generalize hnK : nn - K0 = nK at *
    simp -dsimp [i0, i4, i5, c]
    simp only [cp, List.append_nil] at hc
    subst hc
    exact ⟨rfl, mid ++ [e], by simp at hlen ⊢; omega, by simp -dsimp [i0], by simp -dsimp [i3], inx, ih, ib⟩
  | cons f rest =>
    have c : keep.length + mid.length + 1 - K0 < nn - K0 := by simp at hlen; omega
    have hrow : (keep ++ (mid ++ (e :: f :: rest))).length = nn := by simp at hlen ⊢; omega
    have ge : (keep ++ (mid ++ (e :: f :: rest)))[keep.length + mid.length]? = some e := by
      rw [← List.append_assoc, List.getElem?_append_right (by simp)]; simp
    have gf : (keep ++ (mid ++ (e :: f :: rest)))[keep.length + mid.length + 1]? = some f := by
      rw [← List.append_assoc, List.getElem?_append_right (by rw [List.length_append]; omega), show keep.length + mid.length + 1 - (keep ++ mid).length = 1 by rw [List.length_append]; omega]; simp
    have hq := mark_seqT f e
    have w1 : IntKind.i64.wrap (((keep.length + mid.length + 1 - K0 : Nat) : Int) - 1) = ((keep.length + mid.length - K0 : Nat) : Int) := by rw [w_i64 (by omega) (by omega)]; omega
    have w2 : IntKind.i64.wrap (((keep.length + mid.length + 1 - K0 : Nat) : Int) + 1) = ((keep.length + mid.length + 1 - K0 + 1 : Nat) : Int) := by rw [w_i64 (by omega) (by omega)]; omega
    have w3 : IntKind.i64.wrap ((keep.length : Int) + 1) = ((keep.length + 1 : Nat) : Int) := by rw [w_i64 (by omega) (by omega)]; omega
    have a1 : K0 + (keep.length + mid.length + 1 - K0) = keep.length + mid.length + 1 := by omega
    have a2 : K0 + (keep.length + mid.length - K0) = keep.length + mid.length := by omega
    have c2 : keep.length + mid.length - K0 < nn - K0 := by omega
    have ia1 : ∀ (h : Hp) (F : V → List Nat → Prop), h id = rowB ver (keep ++ (mid ++ (e :: f :: rest))) → iaddrK h (.sl id ver (K0 * 3) (nn - K0) capK) (.int .i64 ((keep.length + mid.length + 1 - K0 : Nat) : Int)) 3 F ⟨⟩ = F (.pt id ver ((keep.length + mid.length + 1) * 3)) [id] := fun h F hb => by rw [r_ia2 hb c, a1]
    have ia2 : ∀ (h : Hp) (F : V → List Nat → Prop), h id = rowB ver (keep ++ (mid ++ (e :: f :: rest))) → iaddrK h (.sl id ver (K0 * 3) (nn - K0) capK) (.int .i64 ((keep.length + mid.length - K0 : Nat) : Int)) 3 F ⟨⟩ = F (.pt id ver ((keep.length + mid.length) * 3)) [id] := fun h F hb => by rw [r_ia2 hb c2, a2]
    obtain ⟨g0, hg0⟩ : ∃ g0, (keep ++ (mid ++ (e :: f :: rest)))[keep.length]? = some g0 := ⟨_, List.getElem?_eq_getElem (by omega)⟩
    have hset : (keep ++ (mid ++ (e :: f :: rest))).set keep.length f = keep ++ ((mid ++ (e :: f :: rest)).set 0 f) := by rw [List.set_append_right _ _ (Nat.le_refl _), Nat.sub_self]
    have hkl : keep.length < (keep ++ (mid ++ (e :: f :: rest))).length := by omega
    have hi1 : ∀ s : St, True := fun _ => trivial
    by_cases d : f = e
    · subst d
      have hc' : keep ++ cp f rest = cpt l := by rw [← hc, cp, if_pos rfl]
      have fin : ∀ t' : St, t'.t 0 = t.t 0 → t'.t 3 = t.t 3 → t'.t 4 = t.t 4 → t'.t 5 = .int .i64 ((keep.length + mid.length + 1 - K0 + 1 : Nat) : Int) → t'.nx = t.nx → t'.h = t.h → ∃ m, m < n ∧ C0I id ver nn cap nx h l K0 capK m t' := fun t' e0 e3 e4 e5 en eh => by
        refine ⟨rest.length, by rw [hn']; simp, keep, mid ++ [f], rest, f, rfl, hc', by simp at hlen ⊢; omega, by simp; omega, by rw [e0, i0], by rw [e3, i3], by rw [e4, i4], ?_, by rw [en]; exact inx, fun j hj hne => by rw [eh]; exact ih j hj hne, ?_⟩
        · rw [e5]
          congr 2
          simp
          omega
        · rw [eh, ib]
          simp
      generalize hrw : keep ++ (mid ++ (f :: f :: rest)) = row at *
      generalize hA : keep.length + mid.length + 1 = A at *
      generalize hk2 : A - K0 = k2 at *
      generalize hA1 : keep.length + mid.length = A1 at *
      generalize hk1 : A1 - K0 = k1 at *
      generalize hnK : nn - K0 = nK at *
      simp -dsimp [i0, i3, i4, i5, c, ia1 _ _ ib, ia2 _ _ ib, r_ld ib gf, r_ld ib ge, w1, w2, hq]
      exact fin _ (by simp -dsimp) (by simp -dsimp) (by simp -dsimp) (by simp -dsimp) rfl rfl
    · have hc' : (keep ++ [f]) ++ cp f rest = cpt l := by rw [← hc, cp, if_neg d]; simp
      have fin : ∀ t' : St, t'.t 0 = t.t 0 → t'.t 3 = .int .i64 ((keep.length + 1 : Nat) : Int) → t'.t 4 = t.t 4 → t'.t 5 = .int .i64 ((keep.length + mid.length + 1 - K0 + 1 : Nat) : Int) → t'.nx = t.nx → t'.h = upd t.h id (rowB ver (keep ++ ((mid ++ (e :: f :: rest)).set 0 f))) → ∃ m, m < n ∧ C0I id ver nn cap nx h l K0 capK m t' := fun t' e0 e3 e4 e5 en eh => by
        have hfr : ∀ j, j < nx → j ≠ id → t'.h j = h j := fun j hj hne => by rw [eh]; simp only [upd]; rw [if_neg hne, ih j hj hne]
        have hlp : (keep ++ [f]).length = keep.length + 1 := by simp
        cases mid with
        | nil =>
          refine ⟨rest.length, by rw [hn']; simp, keep ++ [f], [], rest, f, rfl, hc', by simp at hlen ⊢; omega, by simp at hK ⊢; omega, by rw [e0, i0], by rw [e3, hlp], by rw [e4, i4], ?_, by rw [en]; exact inx, hfr, ?_⟩
          · rw [e5, hlp]
            congr 2
            simp at hK ⊢
            omega
          · rw [eh]
            simp
        | cons m0 M =>
          refine ⟨rest.length, by rw [hn']; simp, keep ++ [f], M ++ [e], rest, f, rfl, hc', by simp at hlen ⊢; omega, by simp at hK ⊢; omega, by rw [e0, i0], by rw [e3, hlp], by rw [e4, i4], ?_, by rw [en]; exact inx, hfr, ?_⟩
          · rw [e5, hlp]
            congr 2
            simp at hK ⊢
            omega
          · rw [eh]
            simp
      generalize hk : keep.length = kl at *
      generalize hA : kl + mid.length + 1 = A at *
      generalize hk2 : A - K0 = k2 at *
      generalize hA1 : kl + mid.length = A1 at *
      generalize hk1 : A1 - K0 = k1 at *
      generalize hnK : nn - K0 = nK at *
      generalize hsr : keep ++ ((mid ++ (e :: f :: rest)).set 0 f) = row2 at *
      generalize hrw : keep ++ (mid ++ (e :: f :: rest)) = row at *
      simp -dsimp [-st_pt, -V.cells, -V.storable, i0, i3, i4, i5, c, ia1 _ _ ib, ia2 _ _ ib, r_ld ib gf, r_ld ib ge, w1, w2, w3, hq, d, r_ia ib hrow hg0, r_st ib hkl, hset]
      exact fin _ (by simp -dsimp) (by simp -dsimp) (by simp -dsimp) (by simp -dsimp) rfl rfl
/-- Up to the first pair. -/
def C1I (id ver nn : Nat) (cap : Option Nat) (nx : Nat) (h : Hp) (l : List Mark) (n : Nat) (t : St) : Prop := ∃ (pre rest : List Mark) (e : Mark), n = rest.length ∧ (pre ++ [e]) ++ cp e rest = cpt l ∧ (pre ++ [e]) ++ rest = l ∧
  t.t 0 = .sl id ver 0 nn cap ∧ t.t 3 = .int .i64 (pre ++ [e]).length ∧ nx ≤ t.nx ∧ (∀ j, j < nx → j ≠ id → t.h j = h j) ∧ t.h id = rowB ver l
theorem compact_ex {h : Hp} {id ver nx : Nat} {l : List Mark} {nn : Nat} {cap : Option Nat} (hb : h id = rowB ver l) (hid : id < nx) (hn : l.length = nn) (hl : nn ≤ 5000) :
    SEx Try.prog 82 [.sl id ver 0 nn cap] h nx (CoQ id ver nx h l) := by
  refine SEx.of hm h82 (of_decide_eq_true rfl) ?_
  unfold c82
  by_cases c : nn < 2
  · have e : cpt l = l := by
      match l, hn with
      | [], _ => rfl
      | [x], _ => rfl
      | x :: y :: r, hn => simp at hn; omega
    have c' : (nn : Int) < 2 := by omega
    simp -dsimp [c']
    exact ⟨by omega, fun j _ _ => rfl, [], cap, by rw [e, hn], by rw [e, hb]; simp⟩
  have c' : ¬ (nn : Int) < 2 := by omega
  simp -dsimp [c']
  obtain ⟨e0, r0, rfl⟩ : ∃ e r, l = e :: r := by
    cases l with
    | nil => simp at hn; omega
    | cons e r => exact ⟨e, r, rfl⟩
  refine loop_dec (C1I id ver nn cap nx h (e0 :: r0)) r0.length ⟨[], r0, e0, rfl, rfl, rfl, by simp -dsimp, by simp -dsimp, by simp -dsimp, fun j _ _ => by simp -dsimp, by simp -dsimp; exact hb⟩ (fun n t hI => ?_)
  obtain ⟨pre, rest, e, hn', hc, hr, i0, i3, inx, ih, ib⟩ := hI
  generalize e0 :: r0 = l at *
  unfold l82_1
  have hk : (pre ++ [e]).length = pre.length + 1 := by simp
  cases rest with
  | nil =>
    rw [List.append_nil] at hr
    have c : ¬ (pre ++ [e]).length < nn := by rw [hr]; omega
    simp only [cp, List.append_nil] at hc
    generalize (pre ++ [e]).length = k at *
    simp -dsimp [i0, i3, c]
    exact ⟨inx, ih, [], cap, by rw [← hc, hr, hn], by rw [ib, ← hc, hr]; simp⟩
  | cons f rest =>
    have hlen : (pre ++ [e]).length + (f :: rest).length = nn := by rw [← hn, ← hr]; simp; omega
    have c : (pre ++ [e]).length < nn := by simp at hlen ⊢; omega
    have ge : l[pre.length]? = some e := by rw [← hr]; simp
    have gf : l[(pre ++ [e]).length]? = some f := by rw [← hr]; simp
    have w1 : IntKind.i64.wrap (((pre ++ [e]).length : Int) - 1) = (pre.length : Int) := by rw [w_i64 (by omega) (by omega)]; omega
    have w2 : IntKind.i64.wrap (((pre ++ [e]).length : Int) + 1) = ((pre ++ [e] ++ [f]).length : Int) := by rw [w_i64 (by omega) (by omega)]; simp; omega
    by_cases d : f = e
    · subst d
      have hq := mark_seq f f
      have sl1 : ∀ (nx : Nat) (F : V → Hp → Nat → Option (List Nat) → Option (List Nat) → Prop), slcK false (.sl id ver 0 nn cap) (some (.int .i64 (pre ++ [f]).length)) none 3 t.h nx F ⟨⟩ = F (.sl id ver ((pre ++ [f]).length * 3) (nn - (pre ++ [f]).length) (cap.map (· - (pre ++ [f]).length))) t.h nx (some [id]) (some []) := fun nx F => r_slc ib (by omega)
      have hc' : (pre ++ [f]) ++ cp f rest = cpt l := by rw [← hc, cp, if_pos rfl]
      have init : ∀ t' : St, t'.t 0 = t.t 0 → t'.t 3 = t.t 3 → t'.t 4 = .sl id ver ((pre ++ [f]).length * 3) (nn - (pre ++ [f]).length) (cap.map (· - (pre ++ [f]).length)) → t'.t 5 = .int .i64 1 → t'.nx = t.nx → t'.h = t.h → C0I id ver nn cap nx h l (pre ++ [f]).length (cap.map (· - (pre ++ [f]).length)) rest.length t' := fun t' e0 e3 e4 e5 en eh => by
        refine ⟨pre ++ [f], [], rest, f, rfl, hc', by simp at hlen ⊢; omega, by simp, by rw [e0, i0], by rw [e3, i3], e4, ?_, by rw [en]; exact inx, fun j hj hne => by rw [eh]; exact ih j hj hne, ?_⟩
        · rw [e5]
          simp
        · rw [eh, ib, ← hr]
          simp
      generalize hkk : (pre ++ [f]).length = k at *
      simp -dsimp [i0, i3, c, r_ia ib hn gf, r_ld ib gf, w1, r_ia ib hn ge, r_ld ib ge, hq, sl1]
      refine LP_cut _ (compact0 (n := rest.length) hid hl (init _ (by simp -dsimp) (by simp -dsimp) (by simp -dsimp) (by simp -dsimp) rfl rfl)) ?_
      rintro e t' ⟨rfl, z, hz, j0, j3, jnx, jh, jb⟩
      have hcl : (cpt l).length ≤ nn := by omega
      have hzl : nn - (cpt l).length = z.length := by omega
      have hp := put_zeros (cpt l) z
      have hf3 : (fl markCd (cpt l ++ z)).length = (cpt l).length * 3 + z.length * 3 := by rw [fl_len3, List.length_append, Nat.add_mul]
      generalize hX : cpt l = m at *
      have sl2 : ∀ (nx : Nat) (F : V → Hp → Nat → Option (List Nat) → Option (List Nat) → Prop), slcK false (.sl id ver 0 nn cap) (some (.int .i64 m.length)) none 3 t'.h nx F ⟨⟩ = F (.sl id ver (m.length * 3) z.length (cap.map (· - m.length))) t'.h nx (some [id]) (some []) := fun nx F => by rw [← hzl]; exact r_slc jb hcl
      have cl : ∀ (cap' : Option Nat) (F : Nat → Hp → Prop), clrK t'.h (.sl id ver (m.length * 3) z.length cap') 3 [.int .i64 0, .int .i64 0, .int .i64 0] F ⟨⟩ = F id (upd t'.h id (rowB ver (m ++ List.replicate z.length zm))) := fun cap' F => by
        rw [clr_sl, jb, blkK_some]
        simp only
        rw [hp]
        unfold guardK
        exact propext ⟨fun q => q.2, fun q => ⟨⟨trivial, trivial, trivial, by rw [hf3]; omega⟩, q⟩⟩
      have hb2 : (upd t'.h id (rowB ver (m ++ List.replicate z.length zm))) id = rowB ver (m ++ List.replicate z.length zm) := by simp
      have sl3 : ∀ (nx : Nat) (F : V → Hp → Nat → Option (List Nat) → Option (List Nat) → Prop), slcK false (.sl id ver 0 nn cap) none (some (.int .i64 m.length)) 3 (upd t'.h id (rowB ver (m ++ List.replicate z.length zm))) nx F ⟨⟩ = F (.sl id ver 0 m.length (cap.map (· - 0))) (upd t'.h id (rowB ver (m ++ List.replicate z.length zm))) nx (some [id]) (some []) := fun nx F => r_slc0 hb2 hcl
      simp -dsimp [j0, j3, sl2, cl, sl3]
      refine ⟨jnx, fun j hj hne => ?_, _, _, by rw [hX], by rw [hX]; simp -dsimp; rfl⟩
      simp -dsimp [hne]
      exact jh j hj hne
    · have hq := mark_seq f e
      have hc' : (pre ++ [e] ++ [f]) ++ cp f rest = cpt l := by rw [← hc, cp, if_neg d]; simp
      have fin : ∀ t' : St, t'.t 0 = t.t 0 → t'.t 3 = .int .i64 (pre ++ [e] ++ [f]).length → t'.nx = t.nx → t'.h = t.h → ∃ m, m < n ∧ C1I id ver nn cap nx h l m t' := fun t' e0 e3 en eh => by
        refine ⟨rest.length, by rw [hn']; simp, pre ++ [e], rest, f, rfl, hc', by rw [← hr]; simp, by rw [e0, i0], e3, by rw [en]; exact inx, fun j hj hne => by rw [eh]; exact ih j hj hne, by rw [eh, ib]⟩
      generalize (pre ++ [e] ++ [f]).length = k2 at *
      generalize (pre ++ [e]).length = k at *
      simp -dsimp [i0, i3, c, r_ia ib hn gf, r_ld ib gf, w1, r_ia ib hn ge, r_ld ib ge, hq, d, w2]
      exact fin _ (by simp -dsimp) (by simp -dsimp) rfl rfl
end Go.Proofs.P3
end
section
set_option linter.unusedVariables false
set_option linter.unusedSimpArgs false
set_option maxRecDepth 10000
set_option maxHeartbeats 4000000
namespace Go.Proofs.P3
open Go.Ex
/-- Ticks that grow. -/
abbrev StrS (l : List Mark) : Prop := l.Pairwise fun u v => u.1 < v.1
theorem mem_cp (z : Mark) : ∀ (r : List Mark) (e : Mark), z ∈ e :: cp e r ↔ z ∈ e :: r
  | [], e => by simp [cp]
  | f :: r, e => by
    unfold cp
    split
    · rename_i h
      subst h
      rw [mem_cp z r f]
      simp
    · rw [List.mem_cons, mem_cp z r f, ← List.mem_cons]
theorem mem_cpt (z : Mark) (l : List Mark) : z ∈ cpt l ↔ z ∈ l := by
  cases l with
  | nil => rfl
  | cons e r => exact mem_cp z r e
theorem srt_cp : ∀ (r : List Mark) (e : Mark), Srt (e :: r) → Srt (e :: cp e r)
  | [], e, h => h
  | f :: r, e, h => by
    have h2 := List.pairwise_cons.1 h
    unfold cp
    split
    · rename_i q
      subst q
      exact srt_cp r f h2.2
    · refine List.pairwise_cons.2 ⟨fun z hz => h2.1 z ((mem_cp z r f).1 hz), srt_cp r f h2.2⟩
theorem srt_cpt {l : List Mark} (h : Srt l) : Srt (cpt l) := by
  cases l with
  | nil => exact h
  | cons e r => exact srt_cp r e h
theorem str_cp : ∀ (r : List Mark) (e : Mark), Srt (e :: r) → (∀ u ∈ e :: r, ∀ v ∈ e :: r, u.1 = v.1 → u = v) → StrS (e :: cp e r)
  | [], e, h, hu => by simp [cp]
  | f :: r, e, h, hu => by
    have h2 := List.pairwise_cons.1 h
    have h3 := List.pairwise_cons.1 h2.2
    have hu' : ∀ u ∈ f :: r, ∀ v ∈ f :: r, u.1 = v.1 → u = v := fun u a v b => hu u (List.mem_cons_of_mem _ a) v (List.mem_cons_of_mem _ b)
    unfold cp
    split
    · rename_i q
      subst q
      exact str_cp r f h2.2 hu'
    · rename_i q
      refine List.pairwise_cons.2 ⟨fun z hz => ?_, str_cp r f h2.2 hu'⟩
      have hf : e.1 ≤ f.1 := h2.1 f (by simp)
      have hne : ¬ f.1 = e.1 := fun hq => q (hu f (by simp) e (by simp) hq)
      rcases List.mem_cons.1 ((mem_cp z r f).1 hz) with rfl | hz
      · omega
      · have : f.1 ≤ z.1 := h3.1 z hz
        omega
theorem str_cpt {l : List Mark} (h : Srt l) (hu : ∀ u ∈ l, ∀ v ∈ l, u.1 = v.1 → u = v) : StrS (cpt l) := by
  cases l with
  | nil => exact List.Pairwise.nil
  | cons e r => exact str_cp r e h hu
/-- Neighbours with the same tick. -/
def Adj (l : List Mark) : Prop := ∃ (k : Nat) (x y : Mark), l[k]? = some x ∧ l[k + 1]? = some y ∧ x.1 = y.1
theorem str_of_adj : ∀ {l : List Mark}, Srt l → ¬ Adj l → StrS l
  | [], _, _ => List.Pairwise.nil
  | [e], _, _ => by simp
  | e :: f :: r, h, hn => by
    have h2 := List.pairwise_cons.1 h
    have h3 := List.pairwise_cons.1 h2.2
    have hf : e.1 ≤ f.1 := h2.1 f (by simp)
    have hne : ¬ e.1 = f.1 := fun q => hn ⟨0, e, f, rfl, rfl, q⟩
    have ih : StrS (f :: r) := str_of_adj h2.2 fun ⟨k, x, y, a, b, c⟩ => hn ⟨k + 1, x, y, a, b, c⟩
    refine List.pairwise_cons.2 ⟨fun z hz => ?_, ih⟩
    rcases List.mem_cons.1 hz with rfl | hz
    · omega
    · have : f.1 ≤ z.1 := h3.1 z hz
      omega
theorem str_nadj {l : List Mark} (h : StrS l) : ¬ Adj l := by
  rintro ⟨k, x, y, hx, hy, he⟩
  have h1 := (List.getElem?_eq_some_iff.1 hx)
  have h2 := (List.getElem?_eq_some_iff.1 hy)
  have := (List.pairwise_iff_getElem.1 h) k (k + 1) h1.1 h2.1 (by omega)
  rw [h1.2, h2.2] at this
  omega
theorem str_inj {l : List Mark} (h : StrS l) {x y : Mark} (hx : x ∈ l) (hy : y ∈ l) (he : x.1 = y.1) : x = y := by
  obtain ⟨i, hi⟩ := List.getElem?_of_mem hx
  obtain ⟨j, hj⟩ := List.getElem?_of_mem hy
  have h1 := (List.getElem?_eq_some_iff.1 hi)
  have h2 := (List.getElem?_eq_some_iff.1 hj)
  rcases Nat.lt_trichotomy i j with c | c | c
  · have := (List.pairwise_iff_getElem.1 h) i j h1.1 h2.1 c
    rw [h1.2, h2.2] at this
    omega
  · subst c
    rw [hi] at hj
    injection hj
  · have := (List.pairwise_iff_getElem.1 h) j i h2.1 h1.1 c
    rw [h1.2, h2.2] at this
    omega
theorem str_uniq : ∀ {l m : List Mark}, StrS l → StrS m → (∀ z, z ∈ l ↔ z ∈ m) → l = m
  | [], [], _, _, _ => rfl
  | [], y :: m, _, _, h => absurd ((h y).2 (by simp)) (by simp)
  | x :: l, [], _, _, h => absurd ((h x).1 (by simp)) (by simp)
  | x :: l, y :: m, hl, hm, h => by
    have l2 := List.pairwise_cons.1 hl
    have m2 := List.pairwise_cons.1 hm
    have e : x = y := by
      rcases List.mem_cons.1 ((h x).1 (by simp)) with e | hx
      · exact e
      · rcases List.mem_cons.1 ((h y).2 (by simp)) with e | hy
        · exact e.symm
        · have := m2.1 x hx
          have := l2.1 y hy
          omega
    subst e
    rw [str_uniq l2.2 m2.2 (fun z => ⟨fun hz => ?_, fun hz => ?_⟩)]
    · rcases List.mem_cons.1 ((h z).1 (List.mem_cons_of_mem _ hz)) with rfl | q
      · have := l2.1 z hz; omega
      · exact q
    · rcases List.mem_cons.1 ((h z).2 (List.mem_cons_of_mem _ hz)) with rfl | q
      · have := m2.1 z hz; omega
      · exact q
/-- Two rows merged; none if they clash. -/
def mrg : Nat → List Mark → List Mark → Option (List Mark)
  | 0, _, _ => some []
  | _ + 1, [], b => some b
  | _ + 1, a, [] => some a
  | n + 1, x :: a, y :: b => if x.1 < y.1 then (mrg n a (y :: b)).map (x :: ·) else if y.1 < x.1 then (mrg n (x :: a) b).map (y :: ·) else if x = y then (mrg n a b).map (x :: ·) else none
theorem mrg_is : ∀ (n : Nat) {a b : List Mark}, a.length + b.length < n → StrS a → StrS b → (∀ m, mrg n a b = some m → StrS m ∧ (∀ z, z ∈ m ↔ z ∈ a ∨ z ∈ b) ∧ ∀ x ∈ a, ∀ y ∈ b, x.1 = y.1 → x = y) ∧ (mrg n a b = none → ∃ x ∈ a, ∃ y ∈ b, x.1 = y.1 ∧ x ≠ y)
  | 0, a, b, h, _, _ => by omega
  | n + 1, [], b, h, _, hb => by
    refine ⟨fun m hm => ?_, fun hm => (by simp [mrg] at hm)⟩
    simp only [mrg] at hm
    injection hm with hm
    subst hm
    exact ⟨hb, fun z => by simp, fun x hx => by simp at hx⟩
  | n + 1, x :: a, [], h, ha, _ => by
    refine ⟨fun m hm => ?_, fun hm => (by simp [mrg] at hm)⟩
    simp only [mrg] at hm
    injection hm with hm
    subst hm
    exact ⟨ha, fun z => by simp, fun x _ y hy => by simp at hy⟩
  | n + 1, x :: a, y :: b, h, ha, hb => by
    have a2 := List.pairwise_cons.1 ha
    have b2 := List.pairwise_cons.1 hb
    simp only [List.length_cons] at h
    simp only [mrg]
    by_cases c1 : x.1 < y.1
    · rw [if_pos c1]
      have ih := mrg_is n (a := a) (b := y :: b) (by simp; omega) a2.2 hb
      refine ⟨fun m hm => ?_, fun hm => ?_⟩
      · obtain ⟨m', hm', rfl⟩ := Option.map_eq_some_iff.1 hm
        obtain ⟨i1, i2, i3⟩ := ih.1 m' hm'
        refine ⟨List.pairwise_cons.2 ⟨fun z hz => ?_, i1⟩, fun z => by rw [List.mem_cons, i2 z, List.mem_cons (a := z) (b := x), or_assoc], fun u hu v hv e => ?_⟩
        · rcases (i2 z).1 hz with q | q
          · exact a2.1 z q
          · rcases List.mem_cons.1 q with rfl | q
            · exact c1
            · have := b2.1 z q; omega
        · rcases List.mem_cons.1 hu with rfl | hu
          · rcases List.mem_cons.1 hv with rfl | hv
            · omega
            · have := b2.1 v hv; omega
          · exact i3 u hu v hv e
      · obtain ⟨u, hu, v, hv, e⟩ := ih.2 (Option.map_eq_none_iff.1 hm)
        exact ⟨u, List.mem_cons_of_mem _ hu, v, hv, e⟩
    · rw [if_neg c1]
      by_cases c2 : y.1 < x.1
      · rw [if_pos c2]
        have ih := mrg_is n (a := x :: a) (b := b) (by simp; omega) ha b2.2
        refine ⟨fun m hm => ?_, fun hm => ?_⟩
        · obtain ⟨m', hm', rfl⟩ := Option.map_eq_some_iff.1 hm
          obtain ⟨i1, i2, i3⟩ := ih.1 m' hm'
          refine ⟨List.pairwise_cons.2 ⟨fun z hz => ?_, i1⟩, fun z => by rw [List.mem_cons, i2 z, List.mem_cons (a := z) (b := y)]; exact or_left_comm, fun u hu v hv e => ?_⟩
          · rcases (i2 z).1 hz with q | q
            · rcases List.mem_cons.1 q with rfl | q
              · exact c2
              · have := a2.1 z q; omega
            · exact b2.1 z q
          · rcases List.mem_cons.1 hv with rfl | hv
            · rcases List.mem_cons.1 hu with rfl | hu
              · omega
              · have := a2.1 u hu; omega
            · exact i3 u hu v hv e
        · obtain ⟨u, hu, v, hv, e⟩ := ih.2 (Option.map_eq_none_iff.1 hm)
          exact ⟨u, hu, v, List.mem_cons_of_mem _ hv, e⟩
      · rw [if_neg c2]
        by_cases c3 : x = y
        · subst c3
          rw [if_pos rfl]
          have ih := mrg_is n (a := a) (b := b) (by omega) a2.2 b2.2
          refine ⟨fun m hm => ?_, fun hm => ?_⟩
          · obtain ⟨m', hm', rfl⟩ := Option.map_eq_some_iff.1 hm
            obtain ⟨i1, i2, i3⟩ := ih.1 m' hm'
            refine ⟨List.pairwise_cons.2 ⟨fun z hz => ?_, i1⟩, fun z => by simp only [List.mem_cons, i2 z]; exact ⟨fun h => h.elim (fun h => .inl (.inl h)) (fun h => h.elim (fun h => .inl (.inr h)) (fun h => .inr (.inr h))), fun h => h.elim (fun h => h.elim .inl (fun h => .inr (.inl h))) (fun h => h.elim .inl (fun h => .inr (.inr h)))⟩, fun u hu v hv e => ?_⟩
            · rcases (i2 z).1 hz with q | q
              · exact a2.1 z q
              · exact b2.1 z q
            · rcases List.mem_cons.1 hu with q | hu' <;> rcases List.mem_cons.1 hv with q' | hv'
              · rw [q, q']
              · have := b2.1 v hv'; rw [q] at e; omega
              · have := a2.1 u hu'; rw [q'] at e; omega
              · exact i3 u hu' v hv' e
          · obtain ⟨u, hu, v, hv, e⟩ := ih.2 (Option.map_eq_none_iff.1 hm)
            exact ⟨u, List.mem_cons_of_mem _ hu, v, List.mem_cons_of_mem _ hv, e⟩
        · rw [if_neg c3]
          exact ⟨fun m hm => (by cases hm), fun _ => ⟨x, by simp, y, by simp, by omega, c3⟩⟩
def mrgF (a b : List Mark) : Option (List Mark) := mrg (a.length + b.length + 1) a b
theorem mrgF_some {a b m : List Mark} (ha : StrS a) (hb : StrS b) (h : mrgF a b = some m) : StrS m ∧ (∀ z, z ∈ m ↔ z ∈ a ∨ z ∈ b) ∧ ∀ x ∈ a, ∀ y ∈ b, x.1 = y.1 → x = y := (mrg_is _ (Nat.lt_succ_self _) ha hb).1 m h
theorem mrgF_none {a b : List Mark} (ha : StrS a) (hb : StrS b) (h : mrgF a b = none) : ∃ x ∈ a, ∃ y ∈ b, x.1 = y.1 ∧ x ≠ y := (mrg_is _ (Nat.lt_succ_self _) ha hb).2 h
/-- Sorted and compacted: what merging makes. -/
theorem own_some {a b m s : List Mark} (ha : StrS a) (hb : StrS b) (hp : s.Perm (a ++ b)) (hs : Srt s) (h : mrgF a b = some m) : cpt s = m ∧ StrS m := by
  obtain ⟨h1, h2, h3⟩ := mrgF_some ha hb h
  refine ⟨str_uniq (str_cpt hs fun u hu v hv e => ?_) h1 fun z => ?_, h1⟩
  · have hu := hp.mem_iff.1 hu
    have hv := hp.mem_iff.1 hv
    rcases List.mem_append.1 hu with hu | hu <;> rcases List.mem_append.1 hv with hv | hv
    · exact str_inj ha hu hv e
    · exact h3 u hu v hv e
    · exact (h3 v hv u hu e.symm).symm
    · exact str_inj hb hu hv e
  · rw [mem_cpt, hp.mem_iff, List.mem_append, h2]
theorem own_none {a b s : List Mark} (ha : StrS a) (hb : StrS b) (hp : s.Perm (a ++ b)) (hs : Srt s) (h : mrgF a b = none) : Adj (cpt s) := by
  obtain ⟨x, hx, y, hy, e, hne⟩ := mrgF_none ha hb h
  refine Classical.byContradiction fun hq => hne ?_
  refine str_inj (str_of_adj (srt_cpt hs) hq) ?_ ?_ e
  · rw [mem_cpt, hp.mem_iff]; exact List.mem_append_left _ hx
  · rw [mem_cpt, hp.mem_iff]; exact List.mem_append_right _ hy
theorem mrgF_comm {a b : List Mark} (ha : StrS a) (hb : StrS b) : mrgF a b = mrgF b a := by
  cases h1 : mrgF a b with
  | none =>
    obtain ⟨x, hx, y, hy, e, hne⟩ := mrgF_none ha hb h1
    cases h2 : mrgF b a with
    | none => rfl
    | some m => exact absurd ((mrgF_some hb ha h2).2.2 y hy x hx e.symm).symm hne
  | some m =>
    obtain ⟨i1, i2, i3⟩ := mrgF_some ha hb h1
    cases h2 : mrgF b a with
    | none =>
      obtain ⟨x, hx, y, hy, e, hne⟩ := mrgF_none hb ha h2
      exact absurd (i3 y hy x hx e.symm).symm hne
    | some m' =>
      obtain ⟨j1, j2, j3⟩ := mrgF_some hb ha h2
      rw [str_uniq i1 j1 fun z => by rw [i2, j2, or_comm]]
theorem mrgF_self {a : List Mark} (ha : StrS a) : mrgF a a = some a := by
  cases h1 : mrgF a a with
  | none =>
    obtain ⟨x, hx, y, hy, e, hne⟩ := mrgF_none ha ha h1
    exact absurd (str_inj ha hx hy e) hne
  | some m =>
    obtain ⟨i1, i2, i3⟩ := mrgF_some ha ha h1
    rw [str_uniq i1 ha fun z => by rw [i2, or_self]]
theorem marks_str {l : List Mark} (h : MarksOk l) : StrS l := by
  refine str_of_adj (l := l) ?_ ?_
  · refine List.pairwise_iff_getElem.2 fun i j hi hj hij => ?_
    have key : ∀ d, ∀ i, (hd : i + d < l.length) → (l[i]'(by omega)).1 ≤ (l[i + d]'hd).1 := by
      intro d
      induction d with
      | zero => intro i hd; exact Int.le_refl _
      | succ d ih =>
        intro i hd
        have h1 := ih i (by omega)
        have h2 := h.inc (i + d) _ _ (List.getElem?_eq_getElem (by omega)) (List.getElem?_eq_getElem (show i + d + 1 < l.length by omega))
        have e : (l[i + (d + 1)]'hd) = (l[i + d + 1]'(by omega)) := rfl
        rw [e]
        omega
    have := key (j - i) i (by omega)
    have e : l[i + (j - i)]'(by omega) = l[j] := by congr 1; omega
    rw [e] at this
    exact this
  · rintro ⟨k, x, y, hx, hy, e⟩
    have := h.inc k x y hx hy
    omega
def mergedF (a b : List Mark) : Int × List Mark := if marksE a ≠ 0 then (marksE a, []) else if marksE b ≠ 0 then (marksE b, []) else match mrgF a b with
  | none => (12, [])
  | some m => if marksE m ≠ 0 then (marksE m, []) else (0, m)
end Go.Proofs.P3
end
section
set_option linter.unusedVariables false
set_option linter.unusedSimpArgs false
set_option maxRecDepth 10000
set_option maxHeartbeats 8000000
namespace Go.Proofs.P3
open Go.Ex
theorem r_l0 {h : Hp} {id ver k : Nat} {l : List Mark} {a : Mark} (hb : h id = rowB ver l) (e : l[k]? = some a) : ldA h (.pt id ver (k * 3)) none = some (.int .i64 a.1) := by
  have := m_l0 (h := h) e
  rw [← this]
  simp [ldA, view, hb]
theorem row_acc {h : Hp} {id ver nx : Nat} {l z : List Mark} {cap : Option Nat} (hb : h id = rowB ver (l ++ z)) (hid : id < nx) : Acc markCd h nx (.sl id ver 0 l.length cap) l :=
  .inr ⟨id, ver, 0, cap, _, rfl, hid, hb, by rw [fl_append, List.length_append, fl_len3]; show 0 + l.length * 3 ≤ _; omega, by rw [List.drop_zero, fl_append]; show List.take (l.length * 3) _ = _; rw [← fl_len3 l, List.take_left]⟩
theorem toRO_rows {h : Hp} {id : Nat} {a b : List Mark} : toRO (upd h id (some ⟨0, 1, [rM a, rM b], none⟩)) 8 (.sl id 0 0 2 (some 2)) = some (.ro 2 [rM a, rM b]) := by
  simp [toRO, cellRO, V.pureL, V.pure, fl_pure]
theorem cat_own {b c : List Mark} (hb : 0 < b.length) : catV b c = (.sl 0 0 0 (b ++ c).length none, [⟨0, 3, fl markCd (b ++ c), none⟩]) := by
  unfold catV; rw [if_neg (by rw [List.length_append]; omega)]
theorem ro_fl (l : List Mark) : roFreeL (fl markCd l) = true := by
  rw [roFreeL_iff]
  intro v hv
  have := pureL_iff.1 (fl_pure (d := markCd) l) v hv
  induction l with
  | nil => simp [fl_nil] at hv
  | cons x l ih =>
    rw [fl3] at hv
    simp only [List.mem_cons] at hv
    rcases hv with rfl | rfl | rfl | hv
    · rfl
    · rfl
    · rfl
    · exact ih hv
theorem mergedF_bad {a b : List Mark} {f : Int} (h : (if marksE a ≠ 0 then marksE a else marksE b) = f) (hf : f ≠ 0) : mergedF a b = (f, []) := by
  unfold mergedF
  by_cases q : marksE a = 0
  · rw [if_neg (by simpa using q)]
    rw [if_neg (by simpa using q)] at h
    rw [h, if_pos hf]
  · rw [if_pos q] at h ⊢
    rw [h]
theorem mergedF_good {a b : List Mark} (ha : marksE a = 0) (hb : marksE b = 0) : mergedF a b = match mrgF a b with
  | none => (12, [])
  | some m => if marksE m ≠ 0 then (marksE m, []) else (0, m) := by
  unfold mergedF
  rw [if_neg (by simpa using ha), if_neg (by simpa using hb)]
  try (cases mrgF a b <;> rfl)
theorem okMark {l : List Mark} (h : MarksOk l) {x : Mark} (hx : x ∈ l) : markOk x := by
  have ok := h.ok x hx
  exact ⟨⟨ok.t0, ok.t1⟩, ⟨ok.m0, ok.m1⟩, ok.o0, ok.o1⟩
def MI (id ver : Nat) (m z : List Mark) (cap : Option Nat) (n : Nat) (t : St) : Prop := ∃ i : Nat, n = m.length - i ∧ 1 ≤ i ∧ i ≤ m.length ∧ t.t 8 = .int .i64 i ∧ t.t 7 = .sl id ver 0 m.length cap ∧ t.h id = rowB ver (m ++ z) ∧ id < t.nx ∧ ∀ (k : Nat) (x y : Mark), k + 1 < i → m[k]? = some x → m[k + 1]? = some y → ¬ x.1 = y.1
def MO (id ver : Nat) (m z : List Mark) (cap : Option Nat) (e : E) (t : St) : Prop := (e = .exit 0 ∧ ¬ Adj m ∧ t.t 7 = .sl id ver 0 m.length cap ∧ t.h id = rowB ver (m ++ z) ∧ id < t.nx) ∨ (e = .ret ∧ Adj m ∧ t.t 4 = .ns ∧ t.t 5 = .int .i64 12)
theorem merged_loop {id ver : Nat} {m z : List Mark} {cap : Option Nat} (hl : m.length ≤ 5000) {n : Nat} {t : St} (hI : MI id ver m z cap n t) : LP Try.prog l32_0 (MO id ver m z cap) t ⟨⟩ ⟨⟩ := by
  refine loop_dec (MI id ver m z cap) n hI (fun n t hI => ?_)
  obtain ⟨i, hn, i1, im, i8, i7, ib, inx, hna⟩ := hI
  unfold l32_0
  by_cases c : i < m.length
  · obtain ⟨i0, rfl⟩ : ∃ i0, i = i0 + 1 := ⟨i - 1, by omega⟩
    have gi : m[i0 + 1]? = some m[i0 + 1] := List.getElem?_eq_getElem c
    have gj : m[i0]? = some m[i0] := List.getElem?_eq_getElem (by omega)
    generalize m[i0 + 1] = x at gi
    generalize m[i0] = y at gj
    have hi' : (m ++ z)[i0 + 1]? = some x := by rw [List.getElem?_append_left c]; exact gi
    have hj' : (m ++ z)[i0]? = some y := by rw [List.getElem?_append_left (by omega)]; exact gj
    have w1 : IntKind.i64.wrap (((i0 + 1 : Nat) : Int) - 1) = (i0 : Int) := by rw [w_i64 (by omega) (by omega)]; omega
    have w2 : IntKind.i64.wrap (((i0 + 1 : Nat) : Int) + 1) = ((i0 + 1 + 1 : Nat) : Int) := by rw [w_i64 (by omega) (by omega)]; omega
    have fin : ¬ x.1 = y.1 → ∀ t' : St, t'.t 8 = .int .i64 ((i0 + 1 + 1 : Nat) : Int) → t'.t 7 = t.t 7 → t'.h = t.h → t'.nx = t.nx → ∃ k, k < n ∧ MI id ver m z cap k t' := fun hne t' e8 e7 eh en => by
      refine ⟨m.length - (i0 + 1 + 1), by omega, i0 + 1 + 1, rfl, by omega, by omega, e8, by rw [e7, i7], by rw [eh, ib], by rw [en]; exact inx, fun k u v hk hu hv => ?_⟩
      by_cases q : k = i0
      · subst q
        rw [gj] at hu
        rw [gi] at hv
        injection hu with hu
        injection hv with hv
        subst hu hv
        exact fun h => hne h.symm
      · exact hna k u v (by omega) hu hv
    have ia : ∀ k, k < m.length → ∀ F : V → List Nat → Prop, iaddrK t.h (.sl id ver 0 m.length cap) (.int .i64 k) 3 F ⟨⟩ = F (.pt id ver (k * 3)) [id] := fun k hk F => by rw [iaddr_sl ib rfl hk, Nat.zero_add]
    have ia1 := ia _ c
    have ia0 := ia i0 (by omega)
    have l1 := r_l0 ib hi'
    have l0 := r_l0 ib hj'
    generalize hk1 : i0 + 1 = k1 at *
    by_cases d : x.1 = y.1
    · simp -dsimp [i8, i7, c, ia1, ia0, w1, l1, l0, d]
      exact .inr ⟨rfl, ⟨i0, y, x, gj, by rw [hk1]; exact gi, d.symm⟩, by simp -dsimp, by simp -dsimp⟩
    · simp -dsimp [i8, i7, c, ia1, ia0, w1, l1, l0, d, w2]
      exact fin d _ (by simp -dsimp) (by simp -dsimp) rfl rfl
  · simp -dsimp [i8, i7, c]
    refine .inl ⟨rfl, ?_, by simp -dsimp [i7], ib, inx⟩
    rintro ⟨k, x, y, hx, hy, q⟩
    have := (List.getElem?_eq_some_iff.1 hy).1
    exact hna k x y (by omega) hx hy q
theorem cp_len : ∀ (r : List Mark) (e : Mark), (cp e r).length ≤ r.length
  | [], e => Nat.le_refl _
  | f :: r, e => by
    have := cp_len r f
    unfold cp
    split
    · rw [List.length_cons]; omega
    · rw [List.length_cons, List.length_cons]; omega
theorem cpt_len (l : List Mark) : (cpt l).length ≤ l.length ∧ (0 < l.length → 1 ≤ (cpt l).length) := by
  cases l with
  | nil => exact ⟨Nat.le_refl _, fun h => h⟩
  | cons e r =>
    have := cp_len r e
    simp only [cpt, List.length_cons]
    exact ⟨by omega, fun _ => by omega⟩
theorem Merged_ok (a b : List Mark) : OkF Try.prog 32 [rM a, rM b] (.tup [rM (mergedF a b).2, .int .i64 (mergedF a b).1], []) := by
  refine OkF.W0 hm h32 (of_decide_eq_true rfl) ?_
  unfold c32
  have hf := First2_ok (marksE a) (marksE b)
  obtain ⟨f, hfe⟩ : ∃ f, (if marksE a ≠ 0 then marksE a else marksE b) = f := ⟨_, rfl⟩
  rw [hfe] at hf
  simp -dsimp
  refine call_pure (CheckMarks_ok a) (by simp) rfl ?_
  simp -dsimp
  refine call_pure (CheckMarks_ok b) (by simp) rfl ?_
  simp -dsimp [fillA, toRO2]
  refine call_int hf ?_
  simp -dsimp
  by_cases a0 : f = 0
  rotate_left
  · have e := mergedF_bad hfe a0
    simp -dsimp [a0, e]
  subst a0
  have ea : marksE a = 0 := by
    refine Classical.byContradiction fun q => ?_
    rw [if_pos q] at hfe
    exact q hfe
  have eb : marksE b = 0 := by rw [if_neg (by simpa using ea)] at hfe; exact hfe
  have ga := marks_good ea
  have gb := marks_good eb
  have la := ga.most; have lb := gb.most; have pa := ga.pos
  have e := mergedF_good ea eb
  simp -dsimp [fillA, toRO_rows]
  refine call_own (concat_ok a b (by omega) (by omega)) ?_ ?_
  · rw [cat_own pa]
    simp [okRes, roFree, ro_fl]
  rw [cat_own pa]
  simp -dsimp [addB]
  have hlab : (a ++ b).length = a.length + b.length := List.length_append
  refine shr_ex (sort_ex (id := 2) (ver := 0) (l := a ++ b) (by simp) (by omega) hlab (by omega) (fun z hz => ?_)) ?_
  · rcases List.mem_append.1 hz with hz | hz
    · exact okMark ga hz
    · exact okMark gb hz
  rintro v1 h1 nx1 ⟨r1, r2, s, ⟨hp, hs⟩, r3⟩
  have hls : s.length = a.length + b.length := by rw [hp.length_eq, hlab]
  simp -dsimp
  refine shr_ex (compact_ex (id := 2) (ver := 0) (l := s) r3 (by omega) hls (by omega)) ?_
  rintro v2 h2 nx2 ⟨c1, c2, z, cap, rfl, c3⟩
  have hcs : (cpt s).length ≤ 5000 ∧ 1 ≤ (cpt s).length := by
    have := cpt_len s
    exact ⟨by omega, this.2 (by omega)⟩
  have sa := marks_str ga
  have sb := marks_str gb
  have ow1 := fun m => own_some (m := m) sa sb hp hs
  have ow2 := own_none sa sb hp hs
  generalize cpt s = m at *
  simp -dsimp
  refine LP_cut _ (merged_loop (id := 2) (ver := 0) (m := m) (z := z) (cap := cap) hcs.1 (n := m.length - 1) ⟨1, rfl, by omega, hcs.2, by simp -dsimp, by simp -dsimp, by simp -dsimp; exact c3, by simp -dsimp; omega, fun k x y hk => by omega⟩) ?_
  rintro ee t (⟨rfl, hna, t7, tb, tnx⟩ | ⟨rfl, had, t4, t5⟩)
  · cases hm : mrgF a b with
    | none => exact absurd (ow2 hm) hna
    | some m' =>
      obtain ⟨rfl, hst⟩ := ow1 m' hm
      have hA := row_acc (nx := t.nx) (cap := cap) tb tnx
      have hr := hA.ro (n := 7)
      have ex := hA.ex1
      rw [hm] at e
      simp -dsimp [t7, hr]
      refine call_int (CheckMarks_ok m) ?_
      simp -dsimp
      by_cases q : marksE m = 0
      · have e' : mergedF a b = (0, m) := by rw [e]; simp [q]
        simp -dsimp [q, t7, e']
        simp [ex]
      · have e' : mergedF a b = (marksE m, []) := by rw [e]; simp [q]
        simp -dsimp [q, e']
  · cases hm : mrgF a b with
    | some m' =>
      obtain ⟨rfl, hst⟩ := ow1 m' hm
      exact absurd had (str_nadj hst)
    | none =>
      rw [hm] at e
      simp -dsimp [t4, t5, e]
end Go.Proofs.P3
end
section
set_option linter.unusedVariables false
set_option linter.unusedSimpArgs false
set_option maxRecDepth 10000
set_option maxHeartbeats 8000000
namespace Go.Proofs.P3
open Go.Ex
theorem mrg_r0 {f : Nat} {a : List Mark} (h : 0 < f) : mrg f a [] = some a := by
  cases f with
  | zero => omega
  | succ f => cases a <;> rfl
theorem mrg_l0 {f : Nat} {b : List Mark} (h : 0 < f) : mrg f [] b = some b := by
  cases f with
  | zero => omega
  | succ f => rfl
structure RM0 (a b : List Mark) (i k f : Nat) (acc : List Mark) (t : St) : Prop where
  hi : i ≤ a.length
  hk : k ≤ b.length
  fu : (a.length - i) + (b.length - k) < f
  len : acc.length ≤ i + k
  eq : mrgF a b = (mrg f (a.drop i) (b.drop k)).map (acc ++ ·)
  t0 : t.t 0 = rM a
  t1 : t.t 1 = rM b
  t9 : t.t 9 = .int .i64 i
  t10 : t.t 10 = .int .i64 k
  ac : Acc markCd t.h t.nx (t.t 8) acc
def RMI (a b : List Mark) (n : Nat) (t : St) : Prop := ∃ (i k f : Nat) (acc : List Mark), n = (a.length - i) + (b.length - k) ∧ RM0 a b i k f acc t
def RMO (a b : List Mark) (e : E) (t : St) : Prop := (e = .exit 0 ∧ ∃ m, mrgF a b = some m ∧ m.length ≤ a.length + b.length ∧ Acc markCd t.h t.nx (t.t 8) m) ∨ (e = .ret ∧ mrgF a b = none ∧ t.t 4 = .ns ∧ t.t 5 = .int .i64 12)
theorem drop_at {a : List Mark} {i : Nat} (h : i < a.length) : a.drop i = mAt a i :: a.drop (i + 1) := by
  have := get_mAt h
  rw [List.drop_eq_getElem_cons h, ← (List.getElem?_eq_some_iff.1 this).2]
theorem mergedR_loop {a b : List Mark} (la : a.length ≤ 2000) (lb : b.length ≤ 2000) {n : Nat} {t : St} (hI : RMI a b n t) : LP Try.prog l36_0 (RMO a b) t ⟨⟩ ⟨⟩ := by
  refine loop_dec (RMI a b) n hI (fun n t hI => ?_)
  obtain ⟨i, k, f, acc, hn, hi, hk, fu, hlen, heq, t0, t1, t9, t10, hA⟩ := hI
  unfold l36_0
  cases f with
  | zero => omega
  | succ f =>
  have wi : IntKind.i64.wrap ((i : Int) + 1) = ((i + 1 : Nat) : Int) := by rw [w_i64 (by omega) (by omega)]; omega
  have wk : IntKind.i64.wrap ((k : Int) + 1) = ((k + 1 : Nat) : Int) := by rw [w_i64 (by omega) (by omega)]; omega
  by_cases c1 : i < a.length
  · have gx := get_mAt c1
    have dx := drop_at c1
    by_cases c2 : k < b.length
    · have gy := get_mAt c2
      have dy := drop_at c2
      have c2' : ¬ (k : Int) = (b.length : Int) := by omega
      have c1' : ¬ (i : Int) = (a.length : Int) := by omega
      have c2n : ¬ k = b.length := by omega
      have c1n : ¬ i = a.length := by omega
      generalize mAt a i = x at gx dx
      generalize mAt b k = y at gy dy
      rw [dx, dy] at heq
      by_cases d1 : x.1 < y.1
      · simp -dsimp [t0, t1, t9, t10, c1, c2, c2', c1', c1n, c2n, m_ia gx, m_l0 gx, m_ia gy, m_l0 gy, d1, m_ld gx, fillA]
        refine push_acc (x := x) hA rfl rfl (by omega) (by omega) fun v' h2 nx2 b1 b2 b3 b4 => ?_
        simp -dsimp [t9, wi]
        refine ⟨_, ?_, i + 1, k, f, acc ++ [x], rfl, by omega, hk, by omega, by simp; omega, ?_, by simp -dsimp [t0], by simp -dsimp [t1], by simp -dsimp, by simp -dsimp [t10], by simpa using b1⟩
        · omega
        · rw [heq, mrg, if_pos d1, dy, Option.map_map]
          congr 1
          funext z
          simp
      · by_cases d2 : y.1 < x.1
        · simp -dsimp [t0, t1, t9, t10, c1, c2, c2', c1', c1n, c2n, m_ia gx, m_l0 gx, m_ia gy, m_l0 gy, d1, d2, m_ld gy, fillA]
          refine push_acc (x := y) hA rfl rfl (by omega) (by omega) fun v' h2 nx2 b1 b2 b3 b4 => ?_
          simp -dsimp [t10, wk]
          refine ⟨_, ?_, i, k + 1, f, acc ++ [y], rfl, hi, by omega, by omega, by simp; omega, ?_, by simp -dsimp [t0], by simp -dsimp [t1], by simp -dsimp [t9], by simp -dsimp, by simpa using b1⟩
          · omega
          · rw [heq, mrg, if_neg d1, if_pos d2, dx, Option.map_map]
            congr 1
            funext z
            simp
        · by_cases d3 : x = y
          · subst d3
            have hq := mark_seqT x x
            simp -dsimp [t0, t1, t9, t10, c1, c2, c2', c1', c1n, c2n, m_ia gx, m_l0 gx, m_ia gy, m_l0 gy, m_ld gx, m_ld gy, hq, fillA]
            refine push_acc (x := x) hA rfl rfl (by omega) (by omega) fun v' h2 nx2 b1 b2 b3 b4 => ?_
            simp -dsimp [t9, t10, wi, wk]
            refine ⟨_, ?_, i + 1, k + 1, f, acc ++ [x], rfl, by omega, by omega, by omega, by simp; omega, ?_, by simp -dsimp [t0], by simp -dsimp [t1], by simp -dsimp, by simp -dsimp, by simpa using b1⟩
            · omega
            · rw [heq, mrg, if_neg d1, if_neg d2, if_pos rfl, Option.map_map]
              congr 1
              funext z
              simp
          · have hq := mark_seqT x y
            simp -dsimp [t0, t1, t9, t10, c1, c2, c2', c1', c1n, c2n, m_ia gx, m_l0 gx, m_ia gy, m_l0 gy, d1, d2, m_ld gx, m_ld gy, hq, d3]
            exact .inr ⟨rfl, by rw [heq, mrg, if_neg d1, if_neg d2, if_neg d3]; rfl, by simp -dsimp, by simp -dsimp⟩
    · obtain rfl : k = b.length := by omega
      generalize mAt a i = x at gx dx
      simp -dsimp [t0, t1, t9, t10, c1, m_ia gx, m_ld gx, fillA]
      refine push_acc (x := x) hA rfl rfl (by omega) (by omega) fun v' h2 nx2 b1 b2 b3 b4 => ?_
      simp -dsimp [t9, wi]
      refine ⟨_, ?_, i + 1, b.length, f, acc ++ [x], rfl, by omega, hk, by omega, by simp; omega, ?_, by simp -dsimp [t0], by simp -dsimp [t1], by simp -dsimp, by simp -dsimp [t10], by simpa using b1⟩
      · omega
      · rw [heq, List.drop_length, mrg_r0 (by omega), mrg_r0 (by omega), dx]
        simp
  · obtain rfl : i = a.length := by omega
    by_cases c2 : k < b.length
    · have gy := get_mAt c2
      have dy := drop_at c2
      have c2' : ¬ (k : Int) = (b.length : Int) := by omega
      have c2n : ¬ k = b.length := by omega
      generalize mAt b k = y at gy dy
      simp -dsimp [t0, t1, t9, t10, c2, c2', c2n, m_ia gy, m_ld gy, fillA]
      refine push_acc (x := y) hA rfl rfl (by omega) (by omega) fun v' h2 nx2 b1 b2 b3 b4 => ?_
      simp -dsimp [t10, wk]
      refine ⟨_, ?_, a.length, k + 1, f, acc ++ [y], rfl, hi, by omega, by omega, by simp; omega, ?_, by simp -dsimp [t0], by simp -dsimp [t1], by simp -dsimp [t9], by simp -dsimp, by simpa using b1⟩
      · omega
      · rw [heq, List.drop_length, mrg_l0 (by omega), mrg_l0 (by omega), dy]
        simp
    · obtain rfl : k = b.length := by omega
      simp -dsimp [t0, t1, t9, t10]
      refine .inl ⟨rfl, acc, ?_, by omega, by simpa using hA⟩
      rw [heq, List.drop_length, List.drop_length, mrg_r0 (by omega)]
      simp
theorem MergedR_ok (a b : List Mark) : OkF Try.prog 36 [rM a, rM b] (.tup [rM (mergedF a b).2, .int .i64 (mergedF a b).1], []) := by
  refine OkF.W0 hm h36 (of_decide_eq_true rfl) ?_
  unfold c36
  simp -dsimp
  refine call_pure (CheckMarksR_ok a) (by simp) rfl ?_
  simp -dsimp
  by_cases ea : marksE a = 0
  rotate_left
  · have e : mergedF a b = (marksE a, []) := by unfold mergedF; rw [if_pos ea]
    simp -dsimp [ea, e]
  simp -dsimp [ea]
  refine call_pure (CheckMarksR_ok b) (by simp) rfl ?_
  simp -dsimp
  by_cases eb : marksE b = 0
  rotate_left
  · have e : mergedF a b = (marksE b, []) := by unfold mergedF; rw [if_neg (by simpa using ea), if_pos eb]
    simp -dsimp [eb, e]
  have ga := marks_good ea
  have gb := marks_good eb
  have la := ga.most; have lb := gb.most; have pa := ga.pos
  have e := mergedF_good ea eb
  simp -dsimp [eb]
  refine LP_cut _ (mergedR_loop (a := a) (b := b) la lb (n := a.length + b.length) ⟨0, 0, a.length + b.length + 1, [], rfl, by omega, by omega, by omega, by simp, by simp [mrgF], by simp -dsimp, by simp -dsimp, by simp -dsimp, by simp -dsimp, .inl ⟨by simp -dsimp, rfl⟩⟩) ?_
  rintro ee t (⟨rfl, m, hm, hl, hA⟩ | ⟨rfl, hm, t4, t5⟩)
  · rw [hm] at e
    have hr := hA.ro (n := 7)
    have ex := hA.ex1
    simp -dsimp [hr]
    refine call_int (CheckMarksR_ok m) ?_
    simp -dsimp
    by_cases q : marksE m = 0
    · have e' : mergedF a b = (0, m) := by rw [e]; simp [q]
      simp -dsimp [q, e']
      simp [ex]
    · have e' : mergedF a b = (marksE m, []) := by rw [e]; simp [q]
      simp -dsimp [q, e']
  · rw [hm] at e
    simp -dsimp [t4, t5, e]
end Go.Proofs.P3
end
section
set_option linter.unusedVariables false
set_option linter.unusedSimpArgs false
set_option maxRecDepth 10000
set_option maxHeartbeats 8000000
namespace Go.Proofs.P3
open Go.Ex
theorem equalM_ok (l m : List Mark) (hl : l.length < 2 ^ 62) : OkF Try.prog 33 [rM l, rM m] (.bool (decide (l = m)), []) :=
  equal_ok (d := markCd) (esz := 3) (tags := [0, 0, 0]) hm h33 rfl (by decide) (fun a b => mark_seqT a b) l m hl
theorem mergedF_len (a b : List Mark) : (mergedF a b).2.length ≤ 2000 := by
  unfold mergedF
  split
  · simp
  split
  · simp
  split
  · simp
  split
  · simp
  · rename_i m _ q
    exact (marks_good (by simpa using q)).most
theorem thinS_len (l : List Mark) (s : Int) : (thinS l s).1.length ≤ 2000 := by
  unfold thinS
  split
  · simp
  · rename_i q
    have a0 : thinE l s = 0 := by simpa using q
    have hme : marksE l = 0 := by
      unfold thinE at a0
      split at a0
      · rename_i q; exact absurd a0 q
      · rename_i q; simpa using q
    exact (thin_facts (marks_good hme) (thinE_good a0).2.1).ok.most
theorem MarksMergeMatchSpec (l m : List Mark) (s : Int) : OkF Try.prog 8 [rM l, rM m, .int .i64 s] (.bool true, []) := by
  refine OkF.W0 hm h8 (of_decide_eq_true rfl) ?_
  unfold c8
  have l1 := mergedF_len l m
  have l2 := thinS_len l s
  have k1 := Merged_ok l m
  have k2 := MergedR_ok l m
  have k3 := Thin_ok l s
  have k4 := ThinR_ok l s
  generalize mergedF l m = r at *
  generalize thinS l s = q at *
  obtain ⟨f, x⟩ := r
  obtain ⟨y, g⟩ := q
  simp only at *
  simp -dsimp
  refine call_pure k1 (by simp) (by simp) ?_
  simp -dsimp
  refine call_pure k2 (by simp) (by simp) ?_
  simp -dsimp
  refine call_pure k3 (by simp) (by simp) ?_
  simp -dsimp
  refine call_pure k4 (by simp) (by simp) ?_
  simp -dsimp
  refine call_pure (equalM_ok x x (by omega)) (by simp) rfl ?_
  simp -dsimp
  refine call_pure (equalM_ok y y (by omega)) (by simp) rfl ?_
  simp -dsimp
  refine call_pure awake2_ok (by simp) rfl ?_
  simp -dsimp
theorem MarksMergeEven (l m : List Mark) : OkF Try.prog 6 [rM l, rM m] (.bool true, []) := by
  refine OkF.W0 hm h6 (of_decide_eq_true rfl) ?_
  unfold c6
  have l1 := mergedF_len l m
  have k1 := Merged_ok l m
  have k2 := Merged_ok m l
  have k3 := Merged_ok l l
  have e1 : marksE l = 0 → marksE m = 0 → mergedF m l = mergedF l m := fun h1 h2 => by
    rw [mergedF_good h1 h2, mergedF_good h2 h1, mrgF_comm (marks_str (marks_good h1)) (marks_str (marks_good h2))]
  have e2 : marksE l = 0 → mergedF l l = (0, l) := fun h1 => by
    rw [mergedF_good h1 h1, mrgF_self (marks_str (marks_good h1))]
    simp [h1]
  have e3 : ¬ marksE l = 0 → mergedF l l = (marksE l, []) := fun h1 => by unfold mergedF; rw [if_pos h1]
  have ll : marksE l = 0 → l.length ≤ 2000 := fun h1 => (marks_good h1).most
  simp -dsimp
  refine call_pure k1 (by simp) (by simp) ?_
  simp -dsimp
  refine call_pure k2 (by simp) (by simp) ?_
  simp -dsimp
  refine call_pure (CheckMarks_ok l) (by simp) rfl ?_
  simp -dsimp
  have fin : ∀ (K : Prop), True := fun _ => trivial
  by_cases a1 : marksE l = 0
  · rw [e2 a1] at k3
    by_cases a2 : marksE m = 0
    · have e1' := e1 a1 a2
      rw [e1']
      generalize mergedF l m = r at *
      obtain ⟨f, x⟩ := r
      simp only at *
      simp -dsimp [a1]
      refine call_pure (CheckMarks_ok m) (by simp) rfl ?_
      simp -dsimp [a2]
      refine call_pure (equalM_ok x x (by omega)) (by simp) rfl ?_
      simp -dsimp
      refine call_pure k3 (by simp) (by simp) ?_
      simp -dsimp
      refine call_pure (CheckMarks_ok l) (by simp) rfl ?_
      simp -dsimp [a1]
      refine call_pure (equalM_ok l l (by have := ll a1; omega)) (by simp) rfl ?_
      simp -dsimp
      refine call_pure awake2_ok (by simp) rfl ?_
      simp -dsimp
    · generalize mergedF l m = r at *
      generalize mergedF m l = r2 at *
      obtain ⟨f, x⟩ := r
      obtain ⟨f2, x2⟩ := r2
      simp only at *
      simp -dsimp [a1]
      refine call_pure (CheckMarks_ok m) (by simp) rfl ?_
      simp -dsimp [a2]
      refine call_pure k3 (by simp) (by simp) ?_
      simp -dsimp
      refine call_pure (CheckMarks_ok l) (by simp) rfl ?_
      simp -dsimp [a1]
      refine call_pure (equalM_ok l l (by have := ll a1; omega)) (by simp) rfl ?_
      simp -dsimp
      refine call_pure awake2_ok (by simp) rfl ?_
      simp -dsimp
  · rw [e3 a1] at k3
    generalize mergedF l m = r at *
    generalize mergedF m l = r2 at *
    obtain ⟨f, x⟩ := r
    obtain ⟨f2, x2⟩ := r2
    simp only at *
    simp -dsimp [a1]
    refine call_pure k3 (by simp) (by simp) ?_
    simp -dsimp [a1]
    refine call_pure (CheckMarks_ok l) (by simp) rfl ?_
    simp -dsimp [a1]
    refine call_pure awake2_ok (by simp) rfl ?_
    simp -dsimp
end Go.Proofs.P3
end
