/- Words: the word of a code and the code of a word; both sides. -/
import Derived.Test.YtjldiihndmkpfaaP3b
set_option linter.unusedVariables false
set_option linter.unusedSimpArgs false
set_option maxRecDepth 10000
set_option maxHeartbeats 4000000
namespace Go.Proofs.P3
open Go.Ex
def decE (n : Int) : Int × Int × Int := if inB n 0 4194303 = true then (((decodedN n.toNat).1 : Nat), ((decodedN n.toNat).2.1 : Nat), ((decodedN n.toNat).2.2 : Nat)) else (0, 0, 1)
theorem dec_nat {c : Nat} (hc : c < 2 ^ 22) : decE (c : Int) = ((((decodedN c).1 : Nat) : Int), (((decodedN c).2.1 : Nat) : Int), (((decodedN c).2.2 : Nat) : Int)) := by
  unfold decE inB
  rw [if_pos (by simp; omega)]
  rfl
theorem xword_k {n i c k w : Nat} : isCk i = true → xword (n + 1) i c k w = xword n (i + 1) c k w := fun h => by simp [xword, h]
theorem xword_n {n i c k w : Nat} : isCk i = false → xword (n + 1) i c k w = xword n (i + 1) c (k + 1) (if c.testBit (i - 1) then w ^^^ 2 ^ k else w) := fun h => by simp [xword, h]
theorem A_set {w k : Nat} (hk : k ≤ 21) (hw : w < 2 ^ k) : binA .or (.int .i64 (w : Int)) (.int .i64 ((2 ^ k : Nat) : Int)) = some (.int .i64 ((w ^^^ 2 ^ k : Nat) : Int)) := by
  have h2 : (2 : Nat) ^ k < 2 ^ 62 := Nat.pow_lt_pow_right (by decide) (by omega)
  rw [A_or (by omega) h2, or_bit_lt hw]
theorem decodedR_ok {c : Nat} (hc : c < 2 ^ 22) : OkF Try.prog 128 [.int .i64 (c : Int)] (.tup [.int .i64 (decE c).1, .int .i64 (decE c).2.1, .int .i64 (decE c).2.2], []) := by
  rw [dec_nat hc]
  refine OkF.W0 hm h128 (of_decide_eq_true rfl) ?_
  unfold c128
  have hb := kind_bounds c
  simp -dsimp
  refine ret3 (rightR_ok hc) ?_
  by_cases q3 : (kindN c).1 = 3
  · simp -dsimp [q3, decodedN]
  simp -dsimp [q3]
  have hr := repaired_lt hc
  have hd : decodedN c = (wordN (repairedN c), (kindN c).1 - 1, 0) := by unfold decodedN; rw [if_neg q3]
  rw [hd]
  generalize repairedN c = d at hr
  refine loop_left 21 (fun n t => ∃ k w : Nat, t.t 0 = .int .i64 (d : Int) ∧ t.t 5 = .int .i64 (((kindN c).1 - 1 : Nat) : Int) ∧ t.t 7 = .int .i64 (w : Int) ∧ t.t 8 = .int .i64 (k : Int) ∧ t.t 9 = .int .i64 ((22 - n : Nat) : Int) ∧ k + n ≤ 21 ∧ w < 2 ^ k ∧ xword n (22 - n) d k w = wordN d) ⟨0, 0, by simp -dsimp [wordN]⟩ (fun t hI => ?_) (fun n t hn hI => ?_)
  · obtain ⟨k, w, i0, i5, i7, i8, i9, hk, hw, hx⟩ := hI
    unfold l128_0
    simp only [xword] at hx
    simp -dsimp [i0, i5, i7, i8, i9, hx]
  · obtain ⟨k, w, i0, i5, i7, i8, i9, hk, hw, hx⟩ := hI
    obtain ⟨i, hi⟩ : ∃ i : Nat, 22 - (n + 1) = i := ⟨_, rfl⟩
    have hi' : 22 - n = i + 1 := by omega
    rw [hi] at i9 hx
    rw [hi']
    have hlt : ((i : Nat) : Int) ≤ 21 := by omega
    have hwi : IntKind.i64.wrap ((i : Int) + 1) = ((i + 1 : Nat) : Int) := by rw [w_i64 (by omega) (by omega)]; omega
    have hwk : IntKind.i64.wrap ((k : Int) + 1) = ((k + 1 : Nat) : Int) := by rw [w_i64 (by omega) (by omega)]; omega
    have hs := A_shl1 (k := .i64) (j := k) (by omega)
    have ho := A_set (by omega) hw
    have hp : 2 ^ k < 2 ^ (k + 1) := Nat.pow_lt_pow_right (by decide) (by omega)
    have hxx : w ^^^ 2 ^ k < 2 ^ (k + 1) := Nat.xor_lt_two_pow (by omega) hp
    unfold l128_0
    simp -dsimp [i0, i5, i7, i8, i9, hlt]
    refine call_bool (isCheck_ok (n := i) (by omega) (by omega)) ?_
    simp -dsimp
    refine condK_of ?_ ?_ <;> intro q <;> simp -dsimp [i0, i5, i7, i8, i9, hwi]
    · rw [xword_k q] at hx
      exact ⟨k, w, rfl, rfl, by omega, hw, hx⟩
    · rw [xword_n q] at hx
      refine call_bool (has_ok (c := d) (n := i) (by omega) (by omega) (by omega)) ?_
      generalize w ^^^ 2 ^ k = w2 at ho hxx hx
      generalize 2 ^ k = p at hs ho hw hp
      simp -dsimp
      refine condK_of ?_ ?_ <;> intro q2 <;> simp -dsimp [-i_shl, -i_or, i0, i5, i7, i8, i9, hs, ho, hwi, hwk]
      · rw [q2] at hx
        exact ⟨k + 1, w2, rfl, rfl, by omega, hxx, by simpa using hx⟩
      · rw [q2] at hx
        exact ⟨k + 1, w, rfl, rfl, by omega, by omega, by simpa using hx⟩
theorem Decoded_ok (x : Int) : OkF Try.prog 108 [.int .i64 x] (.tup [.int .i64 (decE x).1, .int .i64 (decE x).2.1, .int .i64 (decE x).2.2], []) := by
  refine OkF.W0 hm h108 (of_decide_eq_true rfl) ?_
  unfold c108
  simp -dsimp
  refine call_bool (In_ok _ _ _) ?_
  simp -dsimp
  cases hin : inB x 0 4194303 with
  | false =>
    have : decE x = (0, 0, 1) := by unfold decE; rw [hin]; rfl
    simp -dsimp [this]
  | true =>
  obtain ⟨c, rfl⟩ : ∃ c : Nat, x = c := ⟨x.toNat, by unfold inB at hin; simp at hin; omega⟩
  have hc : c < 2 ^ 22 := by unfold inB at hin; simp at hin; omega
  rw [dec_nat hc]
  have hb := kind_bounds c
  simp -dsimp
  refine ret1 (kind_ok hc) ?_
  simp -dsimp
  by_cases q3 : (kindN c).1 = 3
  · have q3' : (((kindN c).1 : Nat) : Int) = 3 := by omega
    simp -dsimp [q3', q3, decodedN]
  have q3' : ¬ (((kindN c).1 : Nat) : Int) = 3 := by omega
  simp -dsimp [q3', q3]
  refine call_int (repaired_ok hc) ?_
  simp -dsimp
  have hr := repaired_lt hc
  have hd : decodedN c = (wordN (repairedN c), (kindN c).1 - 1, 0) := by unfold decodedN; rw [if_neg q3]
  rw [hd]
  generalize repairedN c = d at hr
  have hk1 : IntKind.i64.wrap (((kindN c).1 : Int) - 1) = (((kindN c).1 - 1 : Nat) : Int) := by rw [w_i64 (by omega) (by omega)]; omega
  refine loop_left 21 (fun n t => ∃ k w : Nat, t.t 0 = .int .i64 (d : Int) ∧ t.t 5 = .int .i64 (((kindN c).1 : Nat) : Int) ∧ t.t 7 = .int .i64 (w : Int) ∧ t.t 8 = .int .i64 (k : Int) ∧ t.t 9 = .int .i64 ((22 - n : Nat) : Int) ∧ k + n ≤ 21 ∧ w < 2 ^ k ∧ xword n (22 - n) d k w = wordN d) ⟨0, 0, by simp -dsimp [wordN]⟩ (fun t hI => ?_) (fun n t hn hI => ?_)
  · obtain ⟨k, w, i0, i5, i7, i8, i9, hk, hw, hx⟩ := hI
    unfold l108_0
    simp only [xword] at hx
    simp -dsimp [i0, i5, i7, i8, i9, hx, hk1]
  · obtain ⟨k, w, i0, i5, i7, i8, i9, hk, hw, hx⟩ := hI
    obtain ⟨i, hi⟩ : ∃ i : Nat, 22 - (n + 1) = i := ⟨_, rfl⟩
    have hi' : 22 - n = i + 1 := by omega
    rw [hi] at i9 hx
    rw [hi']
    have hlt : ((i : Nat) : Int) < 22 := by omega
    have hwi : IntKind.i64.wrap ((i : Int) + 1) = ((i + 1 : Nat) : Int) := by rw [w_i64 (by omega) (by omega)]; omega
    have hwk : IntKind.i64.wrap ((k : Int) + 1) = ((k + 1 : Nat) : Int) := by rw [w_i64 (by omega) (by omega)]; omega
    have hs := A_shl1 (k := .i64) (j := k) (by omega)
    have ho := A_set (by omega) hw
    have hp : 2 ^ k < 2 ^ (k + 1) := Nat.pow_lt_pow_right (by decide) (by omega)
    have hxx : w ^^^ 2 ^ k < 2 ^ (k + 1) := Nat.xor_lt_two_pow (by omega) hp
    have ha := A_and (a := d) (b := bt i) (by omega) (bt_lt (by omega))
    have hz := bt_zero (c := d) (i := i)
    unfold l108_0
    simp -dsimp [i0, i5, i7, i8, i9, hlt]
    refine call_bool (check_ok (n := i) (by omega) (by omega)) ?_
    simp -dsimp
    cases q : isCk i with
    | true =>
      simp -dsimp [i0, i5, i7, i8, i9, hwi]
      rw [xword_k q] at hx
      exact ⟨k, w, rfl, rfl, by omega, hw, hx⟩
    | false =>
      simp -dsimp [i0, i5, i7, i8, i9, hwi]
      rw [xword_n q] at hx
      refine call_int (bit_ok (n := i) (by omega) (by omega)) ?_
      generalize w ^^^ 2 ^ k = w2 at ho hxx hx
      generalize 2 ^ k = p at hs ho hw hp
      simp -dsimp [-i_and, ha]
      by_cases q2 : d &&& bt i = 0
      · rw [hz.1 q2] at hx
        simp -dsimp [q2, i0, i5, i7, i8, i9, hwi, hwk]
        exact ⟨k + 1, w, rfl, rfl, by omega, by omega, by simpa using hx⟩
      · have hb' : d.testBit (i - 1) = true := by cases hbb : d.testBit (i - 1) with | true => rfl | false => exact absurd (hz.2 hbb) q2
        rw [hb'] at hx
        have q' : ¬ ((d &&& bt i : Nat) : Int) = 0 := by omega
        simp -dsimp [-i_shl, -i_or, q', q2, i0, i5, i7, i8, i9, hs, ho, hwi, hwk]
        exact ⟨k + 1, w2, rfl, rfl, by omega, hxx, by simpa using hx⟩
def codE (n : Int) : Int × Int := if inB n 0 65535 = true then (((codedN n.toNat) : Nat), 0) else (0, 1)
theorem xdata_k {n i w c : Nat} : isCk i = true → xdata (n + 1) i w c = xdata n (i + 1) w c := fun h => by simp [xdata, h]
theorem xdata_n {n i w c : Nat} : isCk i = false → xdata (n + 1) i w c = xdata n (i + 1) (w / 2) (if w % 2 = 1 then c ^^^ bt i else c) := fun h => by simp [xdata, h, bt]
theorem bit_add (j : Nat) (a : Nat) : a.testBit j = ((a &&& 2 ^ j) != 0) := by
  have := bit_zero (c := a) (j := j)
  cases h : a.testBit j with
  | true =>
    have : ¬ (a &&& 2 ^ j) = 0 := fun e => by rw [this.1 e] at h; cases h
    simp [this]
  | false => simp [this.2 h]
theorem ck_bits {w : Nat} (h : w < 2 ^ 16) : ∀ j, j < 5 → (dataN w).testBit (2 ^ j - 1) = false := by
  have hd := data_ck h
  have key : ∀ p, (32907 : Nat).testBit p = true → (dataN w).testBit p = false := fun p hp => by
    have := Nat.testBit_and (dataN w) 32907 p
    rw [hd, hp] at this
    simpa using this.symm
  intro j hj
  have : ∀ j : Fin 5, (32907 : Nat).testBit (2 ^ j.val - 1) = true := by decide +kernel
  exact key _ (this ⟨j, hj⟩)
theorem xck_all (m c : Nat) : xck 5 0 m c = c ^^^ ckN m := by
  have e := xck_lin 5 0 m 0 0 c
  have e0 : xck 5 0 0 c = c := by simp [xck]
  rw [Nat.xor_zero, Nat.zero_xor, e0] at e
  rw [e, Nat.xor_comm]
  rfl
theorem Coded_ok (x : Int) : OkF Try.prog 50 [.int .i64 x] (.tup [.int .i64 (codE x).1, .int .i64 (codE x).2], []) := by
  refine OkF.W0 hm h50 (of_decide_eq_true rfl) ?_
  unfold c50
  simp -dsimp
  refine call_bool (In_ok _ _ _) ?_
  simp -dsimp
  cases hin : inB x 0 65535 with
  | false =>
    have : codE x = (0, 1) := by unfold codE; rw [hin]; rfl
    simp -dsimp [this]
  | true =>
  obtain ⟨w0, rfl⟩ : ∃ c : Nat, x = c := ⟨x.toNat, by unfold inB at hin; simp at hin; omega⟩
  have hw0 : w0 < 2 ^ 16 := by unfold inB at hin; simp at hin; omega
  have hcod : codE (w0 : Int) = (((codedN w0 : Nat) : Int), 0) := by unfold codE; rw [if_pos hin]; rfl
  rw [hcod]
  have hml := markN_lt (dataN w0)
  have hdl := dataN_lt w0
  have hm0 : IntKind.i64.wrap (2 : Int) = 2 := by decide
  have hck := ck_bits hw0
  simp -dsimp
  refine loop_left 21 (fun n t => ∃ w c : Nat, t.t 0 = .int .i64 (w : Int) ∧ t.t 4 = .int .i64 (c : Int) ∧ t.t 5 = .int .i64 ((22 - n : Nat) : Int) ∧ w < 2 ^ 16 ∧ c < 2 ^ (22 - n - 1) ∧ xdata n (22 - n) w c = dataN w0) ⟨w0, 0, by simp -dsimp [dataN, hw0]⟩ (fun t hI => ?_) (fun n t hn hI => ?_)
  · obtain ⟨w, c, i0, i4, i5, hw, hc, hx⟩ := hI
    simp only [xdata] at hx
    subst hx
    unfold l50_0
    simp -dsimp [i0, i4, i5]
    refine call_int (mark_ok (c := dataN w0) (by omega)) ?_
    simp -dsimp
    refine loop_left 5 (fun n t => ∃ c : Nat, t.t 6 = .int .i64 ((markN (dataN w0) : Nat) : Int) ∧ t.t 4 = .int .i64 (c : Int) ∧ t.t 7 = .int .i64 ((2 ^ (5 - n) : Nat) : Int) ∧ c < 2 ^ 22 ∧ (∀ j, 5 - n ≤ j → j < 5 → c.testBit (2 ^ j - 1) = false) ∧ xck n (5 - n) (markN (dataN w0)) c = dataN w0 ^^^ ckN (markN (dataN w0))) ⟨dataN w0, by simp -dsimp [i4], by simp -dsimp [i4], by simp -dsimp, by omega, fun j _ hj => hck j hj, xck_all _ _⟩ (fun t hI => ?_) (fun n t hn hI => ?_)
    · obtain ⟨c, i6, i4, i7, hc, hbs, hx⟩ := hI
      simp only [xck] at hx
      subst hx
      unfold l50_1
      simp -dsimp [i6, i4, i7]
      have hl := code1_lt w0
      have hco : codedN w0 = if oddN (dataN w0 ^^^ ckN (markN (dataN w0))) then (dataN w0 ^^^ ckN (markN (dataN w0))) ^^^ bt 22 else dataN w0 ^^^ ckN (markN (dataN w0)) := rfl
      generalize dataN w0 ^^^ ckN (markN (dataN w0)) = d at *
      refine call_bool (odd_ok (c := d) hc) ?_
      simp -dsimp
      refine condK_of ?_ ?_ <;> intro q <;> simp -dsimp [i4]
      · rw [q] at hco
        have := bit_ok (n := 22) (by omega) (by omega)
        have hs := A_or (a := d) (b := bt 22) (by omega) (bt_lt (by omega))
        rw [show d ||| bt 22 = d ^^^ bt 22 from or_bit_lt hl] at hs
        refine call_int this ?_
        simp -dsimp [-i_or, i4, hs, hco]
      · rw [q] at hco
        simp [hco]
    · obtain ⟨c, i6, i4, i7, hc, hbs, hx⟩ := hI
      obtain ⟨j, hj⟩ : ∃ j : Nat, 5 - (n + 1) = j := ⟨_, rfl⟩
      have hj' : 5 - n = j + 1 := by omega
      rw [hj] at i7 hx hbs
      rw [hj']
      have hj4 : j ≤ 4 := by omega
      have hpj : 2 ^ j ≤ 16 := Nat.pow_le_pow_right (n := 2) (by decide) hj4
      have hp1 : 1 ≤ 2 ^ j := Nat.one_le_two_pow
      have hps : 2 ^ (j + 1) = 2 ^ j * 2 := Nat.pow_succ ..
      have ha := A_and (a := markN (dataN w0)) (b := 2 ^ j) (by omega) (by omega)
      have hz := bit_zero (c := markN (dataN w0)) (j := j)
      have hb := hbs j (Nat.le_refl _) (by omega)
      have hor : c ||| bt (2 ^ j) = c ^^^ bt (2 ^ j) := or_bit hb
      have hs := A_or (a := c) (b := bt (2 ^ j)) (by omega) (bt_lt (by omega))
      rw [hor] at hs
      have hlt : c ^^^ bt (2 ^ j) < 2 ^ 22 := Nat.xor_lt_two_pow hc (Nat.pow_lt_pow_right (by decide) (by omega))
      have hrest : ∀ i, j + 1 ≤ i → i < 5 → (c ^^^ bt (2 ^ j)).testBit (2 ^ i - 1) = false := fun i h1 h2 => by
        rw [Nat.testBit_xor, hbs i (by omega) h2]
        unfold bt
        rw [Nat.testBit_two_pow]
        have : 2 ^ j < 2 ^ i := Nat.pow_lt_pow_right (by decide) (by omega)
        simp
        omega
      have hx' : xck (n + 1) j (markN (dataN w0)) c = xck n (j + 1) (markN (dataN w0)) (if (markN (dataN w0)).testBit j then c ^^^ bt (2 ^ j) else c) := rfl
      rw [hx'] at hx
      have hbit := bit_ok (n := 2 ^ j) (by omega) (by omega)
      have hw2 : IntKind.i64.wrap (((2 ^ j : Nat) : Int) * 2) = ((2 ^ (j + 1) : Nat) : Int) := by rw [w_i64 (by omega) (by omega), hps]; simp
      generalize 2 ^ (j + 1) = pj at hw2 ⊢
      generalize bt (2 ^ j) = bj at *
      generalize 2 ^ j = p2 at *
      have hl22 : (p2 : Int) < 22 := by omega
      unfold l50_1
      simp -dsimp [-i_and, i6, i4, i7, hl22, ha]
      by_cases q : markN (dataN w0) &&& p2 = 0
      · rw [hz.1 q] at hx
        simp -dsimp [q, i6, i4, i7, hw2]
        exact ⟨c, rfl, hc, fun i h1 h2 => hbs i (by omega) h2, by simpa using hx⟩
      · have hb' : (markN (dataN w0)).testBit j = true := by cases hbb : (markN (dataN w0)).testBit j with | true => rfl | false => exact absurd (hz.2 hbb) q
        rw [hb'] at hx
        have q' : ¬ ((markN (dataN w0) &&& p2 : Nat) : Int) = 0 := by omega
        simp -dsimp [q, q', i6, i4, i7]
        refine call_int hbit ?_
        simp -dsimp [-i_or, i6, i4, i7, hs, hw2]
        exact ⟨_, rfl, hlt, hrest, by simpa using hx⟩
  · obtain ⟨w, c, i0, i4, i5, hw, hc, hx⟩ := hI
    obtain ⟨i, hi⟩ : ∃ i : Nat, 22 - (n + 1) = i := ⟨_, rfl⟩
    have hi' : 22 - n = i + 1 := by omega
    rw [hi] at i5 hx hc
    rw [hi']
    have hlt : ((i : Nat) : Int) < 22 := by omega
    have hwi : IntKind.i64.wrap ((i : Int) + 1) = ((i + 1 : Nat) : Int) := by rw [w_i64 (by omega) (by omega)]; omega
    have hone := A_one (a := w) (by omega)
    have hsh : binA .shr (.int .i64 (w : Int)) (.int .u64 1) = some (.int .i64 ((w / 2 : Nat) : Int)) := A_shr (k := .u64) (a := w) (j := 1) (by omega)
    have hbl : bt i < 2 ^ (i + 1 - 1) := Nat.pow_lt_pow_right (by decide) (by omega)
    have hc2 : c < 2 ^ (i + 1 - 1) := Nat.lt_trans hc hbl
    have hcl : c < 2 ^ 62 := Nat.lt_trans hc (Nat.pow_lt_pow_right (by decide) (by omega))
    have hs := A_or (a := c) (b := bt i) hcl (bt_lt (by omega))
    rw [show c ||| bt i = c ^^^ bt i from or_bit_lt hc] at hs
    have hxl : c ^^^ bt i < 2 ^ (i + 1 - 1) := Nat.xor_lt_two_pow hc2 hbl
    have hm2 := Nat.mod_two_eq_zero_or_one w
    unfold l50_0
    simp -dsimp [i0, i4, i5, hlt]
    refine call_bool (check_ok (n := i) (by omega) (by omega)) ?_
    simp -dsimp
    cases q : isCk i with
    | true =>
      simp -dsimp [i0, i4, i5, hwi]
      rw [xdata_k q] at hx
      exact ⟨w, rfl, c, rfl, hw, by simpa using hc2, hx⟩
    | false =>
      rw [xdata_n q] at hx
      have hw2 : w / 2 < 2 ^ 16 := by omega
      generalize w / 2 = w2 at *
      generalize w % 2 = b at *
      simp -dsimp [-i_and, -i_shr, hone, i0, i4, i5, hwi]
      by_cases q2 : b = 0
      · rw [if_neg (by omega)] at hx
        simp -dsimp [-i_and, -i_shr, q2, i0, i4, i5, hwi, hsh]
        exact ⟨w2, rfl, c, rfl, hw2, by simpa using hc2, hx⟩
      · have q' : ¬ (b : Int) = 0 := by omega
        rw [if_pos (by omega)] at hx
        simp -dsimp [q2, q', i0, i4, i5]
        refine call_int (bit_ok (n := i) (by omega) (by omega)) ?_
        simp -dsimp [-i_and, -i_shr, -i_or, hs, i0, i4, i5, hwi, hsh]
        exact ⟨w2, rfl, _, rfl, hw2, by simpa using hxl, hx⟩
theorem awake_ok : OkF Try.prog 41 [] (.bool true, []) := by
  refine OkF.W0 hm h41 (of_decide_eq_true rfl) ?_
  unfold c41
  have h := Coded_ok 1
  rw [show codE 1 = (2097159, 0) by decide +kernel] at h
  simp -dsimp
  refine ret1 h ?_
  simp -dsimp
end Go.Proofs.P3
