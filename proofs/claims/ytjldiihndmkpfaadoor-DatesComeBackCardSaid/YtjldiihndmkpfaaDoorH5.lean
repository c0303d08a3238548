/- When days begin: halving and counting; digits of a text. -/
import Derived.Test.YtjldiihndmkpfaaDoorH4
set_option linter.unusedVariables false
set_option linter.unusedSimpArgs false
set_option maxRecDepth 10000
set_option maxHeartbeats 8000000
namespace Go.Proofs.P4
open Go.Ex
theorem nan_ok (a : Int) : OkF Tryd.prog 102 [.int .i64 a] (.bool false, []) := by
  refine OkF.W0 hm h102 (of_decide_eq_true rfl) ?_
  unfold c102
  simp -dsimp
theorem nanS_ok (a : Int) : OkF Tryd.prog 78 [.int .i64 a] (.bool false, []) := by
  refine OkF.W0 hm h78 (of_decide_eq_true rfl) ?_
  unfold c78
  simp -dsimp
theorem less_ok (a b : Int) : OkF Tryd.prog 77 [.int .i64 a, .int .i64 b] (.bool (decide (a < b)), []) := by
  refine OkF.W0 hm h77 (of_decide_eq_true rfl) ?_
  unfold c77
  simp -dsimp
  refine call_bool (nan_ok _) ?_
  simp -dsimp
def fndB (l : List Int) (d : Int) (k : Nat) : Bool := match l[k]? with
  | some y => decide (y = d)
  | none => false
def BSI (l : List Int) (d : Int) (p : Nat) (n : Nat) (t : St) : Prop := ∃ i j : Nat, n = j - i ∧ i ≤ p ∧ p ≤ j ∧ j ≤ l.length ∧ t.t 7 = .int .i64 i ∧ t.t 8 = .int .i64 j ∧ t.t 0 = rI l ∧ t.t 1 = .int .i64 d ∧ t.t 6 = .int .i64 l.length ∧ t.h = none0
theorem BinS_ok (l : List Int) (d : Int) (p : Nat) (hl : l.length ≤ 100) (hp : p ≤ l.length) (hM : ∀ (k : Nat) y, l[k]? = some y → decide (y < d) = decide (k < p)) :
    OkF Tryd.prog 60 [rI l, .int .i64 d] (.tup [.int .i64 p, .bool (fndB l d p)], []) := by
  refine OkF.W0 hm h60 (of_decide_eq_true rfl) ?_
  unfold c60
  simp -dsimp
  refine loop_dec (BSI l d p) l.length ?_ (fun n t hI => ?_)
  · exact ⟨0, l.length, rfl, by omega, hp, Nat.le_refl _, by simp -dsimp, by simp -dsimp, by simp -dsimp, by simp -dsimp, by simp -dsimp, by simp -dsimp⟩
  · obtain ⟨i, j, hn, hip, hpj, hjl, i7, i8, i0, i1, i6, ih⟩ := hI
    unfold l60_0
    by_cases hij : i < j
    · have hij' : (i : Int) < (j : Int) := by omega
      have hw1 : IntKind.i64.wrap ((i : Int) + (j : Int)) = (i : Int) + (j : Int) := IntWalk.i64_in _ (by omega)
      have hw2 : IntKind.u64.wrap ((i : Int) + (j : Int)) = (i : Int) + (j : Int) := IntWalk.u64_in _ (by omega)
      have hfd : ((i : Int) + (j : Int)).fdiv (2 ^ min 1 IntKind.u64.bits) = (((i + j) / 2 : Nat) : Int) := by
        have : (2 : Int) ^ min 1 IntKind.u64.bits = 2 := by decide
        rw [this, Int.fdiv_eq_ediv_of_nonneg _ (by omega)]
        omega
      have hw3 : IntKind.i64.wrap (((i + j) / 2 : Nat) : Int) = (((i + j) / 2 : Nat) : Int) := IntWalk.i64_in _ (by omega)
      have hm1 : i ≤ (i + j) / 2 := by omega
      have hm2 : (i + j) / 2 < j := by omega
      generalize (i + j) / 2 = m at hfd hw3 hm1 hm2
      have hg : l[m]? = some l[m] := List.getElem?_eq_getElem (by omega)
      generalize l[m] = y at hg
      have hMy := hM m y hg
      have hw4 : IntKind.i64.wrap ((m : Int) + 1) = (m : Int) + 1 := IntWalk.i64_in _ (by omega)
      simp -dsimp [i7, i8, i0, i1, hij', hw1, hw2, hfd, hw3, i_ia hg, i_ld hg]
      refine call_bool (less_ok y d) ?_
      by_cases hmp : m < p
      · simp -dsimp [hMy, hmp, hw4, i7, i8, i0, i1, i6]
        exact ⟨j - (m + 1), by omega, m + 1, j, rfl, by omega, by omega, by omega, by simp -dsimp, by simp -dsimp [i8], by simp -dsimp [i0], by simp -dsimp [i1], by simp -dsimp [i6], by simp -dsimp [ih]⟩
      · simp -dsimp [hMy, hmp, i7, i8, i0, i1, i6]
        exact ⟨m - i, by omega, i, m, rfl, by omega, by omega, by omega, by simp -dsimp [i7], by simp -dsimp, by simp -dsimp [i0], by simp -dsimp [i1], by simp -dsimp [i6], by simp -dsimp [ih]⟩
    · have : i = p := by omega
      subst this
      have hij' : ¬ (i : Int) < (j : Int) := by omega
      simp -dsimp [i7, i8, i0, i1, i6, hij']
      by_cases hil : i < l.length
      · have hg : l[i]? = some l[i] := List.getElem?_eq_getElem hil
        have hb : fndB l d i = decide (l[i] = d) := by unfold fndB; rw [hg]
        rw [hb]
        generalize l[i] = y at hg
        by_cases q : y = d
        · subst q
          simp -dsimp [hil, i0, i7, i1, i_ia hg, i_ld hg]
        · simp -dsimp [hil, i0, i7, i1, i_ia hg, i_ld hg, q]
          refine call_bool (nanS_ok y) ?_
          simp -dsimp [q]
      · have hb : fndB l d i = false := by unfold fndB; rw [List.getElem?_eq_none (by omega)]
        simp -dsimp [hil, hb]
theorem start_ok {l : List Int} (hl : LeapsOk l) (d : Int) (h0 : -1000000 ≤ d) (h1 : d ≤ 10000000) : OkF Tryd.prog 29 [rI l, .int .i64 d] (.int .i64 (st l d), []) := by
  refine OkF.W0 hm h29 (of_decide_eq_true rfl) ?_
  unfold c29
  have hc := cnt_le l d
  have hk := BinS_ok l d (cnt l d) hl.most hc (fun k y hk => by
    rw [decide_eq_decide]
    exact cnt_iff hl.asc hk)
  have hm := hl.most
  have e : st l d = d * 86400000 + (cnt l d : Int) * 1000 := by unfold st; omega
  rw [e]
  generalize cnt l d = c at *
  have w1 : IntKind.i64.wrap (d * 86400000) = d * 86400000 := w_i64 (by omega) (by omega)
  have w2 : IntKind.i64.wrap ((c : Int) * 1000) = (c : Int) * 1000 := w_i64 (by omega) (by omega)
  have w3 : IntKind.i64.wrap (d * 86400000 + (c : Int) * 1000) = d * 86400000 + (c : Int) * 1000 := w_i64 (by omega) (by omega)
  simp -dsimp
  refine call_pure hk (by simp) (by simp [V.pure, V.pureL]) ?_
  simp -dsimp [w1, w2, w3]
theorem startR_ok {l : List Int} (hl : LeapsOk l) (d : Int) (h0 : -1000000 ≤ d) (h1 : d ≤ 10000000) : OkF Tryd.prog 34 [rI l, .int .i64 d] (.int .i64 (st l d), []) := by
  refine OkF.W0 hm h34 (of_decide_eq_true rfl) ?_
  unfold c34
  have hm := hl.most
  have w1 : IntKind.i64.wrap (d * 86400000) = d * 86400000 := w_i64 (by omega) (by omega)
  simp -dsimp [w1]
  refine loop_to 6 l.length (fun k t => t.t 6 = .int .i64 k ∧ t.t 0 = rI l ∧ t.t 1 = .int .i64 d ∧ t.h = none0 ∧ t.t 5 = .int .i64 (d * 86400000 + 1000 * (cnt (l.take k) d : Int))) (fun k t h => h.1) ⟨by simp -dsimp, by simp -dsimp, by simp -dsimp, by simp -dsimp, by simp -dsimp [cnt]⟩ (fun k t hk hI => ?_)
  obtain ⟨i6, i0, i1, ih, i5⟩ := hI
  by_cases hlt : k < l.length
  · have hlt' : (k : Int) < (l.length : Int) := by omega
    have hg : l[k]? = some l[k] := List.getElem?_eq_getElem hlt
    have hw : IntKind.i64.wrap ((k : Int) + 1) = (k : Int) + 1 := IntWalk.i64_in _ (by omega)
    have hs : cnt (l.take (k + 1)) d = cnt (l.take k) d + if l[k] < d then 1 else 0 := by
      unfold cnt
      rw [List.take_add_one, List.filter_append, List.length_append, hg]
      by_cases q : l[k] < d <;> simp [q]
    have hb : cnt (l.take k) d ≤ k := Nat.le_trans (cnt_le _ _) (by rw [List.length_take]; omega)
    generalize l[k] = x at *
    generalize cnt (l.take k) d = c at *
    generalize cnt (l.take (k + 1)) d = c' at *
    unfold l34_0
    have w2 : IntKind.i64.wrap (d * 86400000 + 1000 * (c : Int) + 1000) = d * 86400000 + 1000 * (c : Int) + 1000 := w_i64 (by omega) (by omega)
    by_cases q : x < d
    · rw [if_pos q] at hs
      simp -dsimp [i0, i6, i1, i5, hlt', i_ia hg, i_ld hg, q, hw, w2]
      subst hs
      exact ⟨by omega, ih, by omega⟩
    · rw [if_neg q] at hs
      simp -dsimp [i0, i6, i1, i5, hlt', i_ia hg, i_ld hg, q, hw]
      subst hs
      exact ⟨by omega, ih, rfl⟩
  · have hkl : k = l.length := by omega
    subst hkl
    rw [List.take_length] at i5
    unfold l34_0
    simp -dsimp [i0, i6, i5]
    unfold st
    rfl
theorem Contains_ok (l : List Int) (x : Int) (hl : l.length ≤ 100) : OkF Tryd.prog 38 [rI l, .int .i64 x] (.bool (decide (x ∈ l)), []) :=
  contains_int (f' := 63) hm h38 h63 l (by omega) x
theorem longer_ok (l : List Int) (x : Int) (hl : l.length ≤ 100) : OkF Tryd.prog 42 [rI l, .int .i64 x] (.bool (decide (x ∈ l)), []) := by
  refine OkF.W0 hm h42 (of_decide_eq_true rfl) ?_
  unfold c42
  simp -dsimp
  refine loop_to 5 l.length (fun k t => t.t 5 = .int .i64 k ∧ t.t 0 = rI l ∧ t.t 1 = .int .i64 x ∧ ∀ i a, i < k → l[i]? = some a → a ≠ x) (fun k t h => h.1) ⟨by simp -dsimp, by simp -dsimp, by simp -dsimp, fun i a hi => by omega⟩ (fun k t hk hI => ?_)
  obtain ⟨i5, i0, i1, iu⟩ := hI
  by_cases hlt : k < l.length
  · have hlt' : (k : Int) < (l.length : Int) := by omega
    have hg : l[k]? = some l[k] := List.getElem?_eq_getElem hlt
    have hw : IntKind.i64.wrap ((k : Int) + 1) = (k : Int) + 1 := IntWalk.i64_in _ (by omega)
    generalize l[k] = y at *
    unfold l42_0
    by_cases q : y = x
    · subst q
      have hin : y ∈ l := List.mem_of_getElem? hg
      simp -dsimp [i0, i5, i1, hlt', i_ia hg, i_ld hg, hin]
    · simp -dsimp [i0, i5, i1, hlt', i_ia hg, i_ld hg, q, hw]
      refine ⟨by omega, fun i a hi ha => ?_⟩
      rcases Nat.lt_or_ge i k with w | w
      · exact iu i a w ha
      · have : i = k := by omega
        subst this
        rw [hg] at ha
        injection ha with ha
        rw [← ha]
        exact q
  · have hkl : k = l.length := by omega
    subst hkl
    have hin : ¬ x ∈ l := fun h => by
      obtain ⟨i, hi⟩ := List.getElem?_of_mem h
      exact iu i x (List.getElem?_eq_some_iff.1 hi).1 hi rfl
    unfold l42_0
    simp -dsimp [i0, i5, hin]
theorem digG {s : List UInt8} {k : Nat} (h : k < s.length) : s[k]? = some (s.getD k 0) := by
  rw [List.getElem?_eq_getElem h]; simp [List.getD, h]
theorem seg_snoc {s : List UInt8} {i n : Nat} {b : UInt8} (h : s[i + n]? = some b) : seg s i (n + 1) = seg s i n ++ [b] := by
  unfold seg
  rw [List.take_add_one, List.getElem?_drop, h]
  rfl
theorem vl_lt {s : List UInt8} (h : ∀ b ∈ s, isD b) : vl s < 10 ^ s.length := (fx_vl s.length s rfl h).2
theorem digits_ok {s : List UInt8} {i n : Nat} (hn : n ≤ 4) (hi : i ≤ 20) (hl : i + n ≤ s.length) (hd : ∀ b ∈ seg s i n, isD b) : OkF Tryd.prog 40 [.str s, .int .i64 i, .int .i64 ((i + n : Nat) : Int)] (.int .i64 (vl (seg s i n)), []) := by
  refine OkF.W0 hm h40 (of_decide_eq_true rfl) ?_
  unfold c40
  simp -dsimp
  refine loop_left n (fun m t => ∃ j, j + m = n ∧ t.t 8 = .int .i64 ((i + j : Nat) : Int) ∧ t.t 0 = .str s ∧ t.t 2 = .int .i64 ((i + n : Nat) : Int) ∧ t.h = none0 ∧ t.t 7 = .int .i64 (vl (seg s i j))) ⟨0, by omega, by simp -dsimp, by simp -dsimp, by simp -dsimp, by simp -dsimp, by simp -dsimp [seg, vl]⟩ (fun t hI => ?_) (fun m t hm hI => ?_)
  · obtain ⟨j, hj, i8, i0, i2, ih, i7⟩ := hI
    have : j = n := by omega
    subst this
    unfold l40_0
    generalize i + j = a at *
    simp -dsimp [i8, i0, i2, i7]
  · obtain ⟨j, hj, i8, i0, i2, ih, i7⟩ := hI
    have hk : i + j < s.length := by omega
    have gk := digG hk
    generalize s.getD (i + j) 0 = b at *
    have hsg := seg_snoc gk
    have hb : isD b := hd b (by
      have : (seg s i n)[j]? = some b := by
        unfold seg
        rw [List.getElem?_take, if_pos (by omega), List.getElem?_drop, gk]
      exact List.mem_of_getElem? this)
    have hv : vl (seg s i j) < 10 ^ (seg s i j).length := vl_lt fun c hc => hd c (by
      have : seg s i j = (seg s i n).take j := by unfold seg; rw [List.take_take]; congr 1; omega
      rw [this] at hc
      exact List.mem_of_mem_take hc)
    have hv2 : vl (seg s i j) < 10000 := Nat.lt_of_lt_of_le hv (by
      have : (seg s i j).length ≤ 4 := by unfold seg; rw [List.length_take]; omega
      exact Nat.pow_le_pow_right (by decide) this)
    have hs : vl (seg s i (j + 1)) = vl (seg s i j) * 10 + (b.toNat - 48) := by rw [hsg, vl_snoc]
    obtain ⟨b1, b2⟩ := hb
    generalize vl (seg s i j) = v at *
    generalize hv' : vl (seg s i (j + 1)) = v' at *
    have gk' : s[(((i + j : Nat) : Int)).toNat]? = some b := by rw [Int.toNat_natCast]; exact gk
    have hlt : ((i + j : Nat) : Int) < ((i + n : Nat) : Int) := by omega
    have w1 : IntKind.i64.wrap (10 * (v : Int)) = 10 * (v : Int) := w_i64 (by omega) (by omega)
    have w2 : IntKind.u8.wrap ((b.toNat : Int) - 48) = ((b.toNat - 48 : Nat) : Int) := by rw [IntWalk.u8_in _ (by omega)]; omega
    have w3 : IntKind.i64.wrap ((b.toNat - 48 : Nat) : Int) = ((b.toNat - 48 : Nat) : Int) := w_i64 (by omega) (by omega)
    have w4 : IntKind.i64.wrap (10 * (v : Int) + ((b.toNat - 48 : Nat) : Int)) = (v' : Int) := by rw [w_i64 (by omega) (by omega)]; omega
    have w5 : IntKind.i64.wrap (((i + j : Nat) : Int) + 1) = ((i + (j + 1) : Nat) : Int) := by rw [w_i64 (by omega) (by omega)]; omega
    generalize b.toNat - 48 = dd at *
    have e1 : i + (j + 1) = i + j + 1 := by omega
    generalize hq : i + j = a at *
    generalize hr : i + (j + 1) = a' at *
    generalize i + n = c at *
    unfold l40_0
    simp -dsimp [i8, i0, i2, i7, hlt, gk, gk', w1, w2, w3, w4, w5]
    refine ⟨j + 1, by omega, ?_⟩
    exact ⟨by omega, ih, by rw [hv']⟩
end Go.Proofs.P4

