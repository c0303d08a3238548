/- Sums of the store; the two bytes of a number; what is told of rows of bytes. -/
import Derived.Test.YtjldiihndmkpfaaT1
set_option linter.unusedVariables false
set_option linter.unusedSimpArgs false
set_option maxRecDepth 10000
set_option maxHeartbeats 8000000
namespace Go.Proofs.P3
open Go.Ex
theorem itq_lt {s : Nat} (h : s < 65536) : ∀ k, its stq k s < 65536
  | 0 => h
  | k + 1 => stq_lt (itq_lt h k)
theorem sumq_lt (l : List UInt8) : ∀ k, sums stq l k < 65536
  | 0 => by show 65535 < 65536; decide
  | k + 1 => itq_lt (mix_lt (sumq_lt l k) _) 8
theorem its_eq {s : Nat} (h : s < 65536) : ∀ k, its stp k s = its stq k s
  | 0 => rfl
  | k + 1 => by rw [its, its, ← its_eq h k, stp_stq (its_lt h k)]
theorem sums_eq (l : List UInt8) : ∀ k, sums stp l k = sums stq l k
  | 0 => rfl
  | k + 1 => by rw [sums, sums, ← sums_eq l k]; exact its_eq (mix_lt (sums_lt l k) _) 8
theorem sum_ok (l : List UInt8) (hl : l.length < 2 ^ 62) : OkF Try.prog 132 [rB l] (.int .i64 (sumN l), []) := by
  unfold sumN
  rw [sums_eq]
  refine OkF.W0 hm h132 (of_decide_eq_true rfl) ?_
  unfold c132
  simp -dsimp
  refine for_lt l.length (fun k t => t.t 7 = rB l ∧ t.t 3 = .int .i64 (sums stq l k) ∧ t.h = none0) rfl hl ⟨by simp -dsimp, by simp -dsimp [sums], by simp -dsimp⟩ (by simp -dsimp) (by simp -dsimp) (fun k t hk hI hi hn => ?_) (fun t hI hi hn => ?_)
  · obtain ⟨i7, i3, ih⟩ := hI
    have hg := bt_at hk
    have hS : sums stq l (k + 1) = its stq 8 (sums stq l k ^^^ ((l[k]?).getD 0).toNat * 256) := rfl
    have hlt := sumq_lt l k
    rw [hS]
    generalize (l[k]?).getD 0 = c at *
    generalize sums stq l k = s at *
    have hc := c.toNat_lt
    have hm0 := mix_lt hlt c
    have w1 : IntKind.i64.wrap (c.toNat : Int) = (c.toNat : Int) := w_i64 (by omega) (by omega)
    have a1 : IntKind.i64.wrap ((c.toNat : Int) * 256) = ((c.toNat * 256 : Nat) : Int) := by rw [w_i64 (by omega) (by omega)]; omega
    have a2 : binA .xor (.int .i64 (s : Int)) (.int .i64 ((c.toNat * 256 : Nat) : Int)) = some (.int .i64 ((s ^^^ c.toNat * 256 : Nat) : Int)) := A_xor (by omega) (by omega)
    generalize s ^^^ c.toNat * 256 = m at *
    generalize c.toNat * 256 = c8 at *
    unfold k132_1
    simp -dsimp [-i_shl, -i_xor, i7, i3, hi, b_ia hg, b_ld hg, w1, a1, a2]
    refine loop_to 18 8 (fun j t' => t'.t 18 = .int .i64 j ∧ t'.t 3 = .int .i64 (its stq j m) ∧ t'.t 7 = rB l ∧ t'.h = none0 ∧ t'.t 9 = .int .i64 k ∧ t'.t 8 = .int .i64 l.length) (fun j t' h => h.1) ⟨by simp -dsimp, by simp -dsimp [its], by simp -dsimp [i7], by simp -dsimp [ih], by simp -dsimp [hi], by simp -dsimp [hn]⟩ (fun j t' hj hJ => ?_)
    obtain ⟨j17, j3, j6, jh, j8, j7⟩ := hJ
    by_cases hlt8 : j < 8
    · have hlt8' : (j : Int) < 8 := by omega
      have hw : IntKind.i64.wrap ((j : Int) + 1) = (j : Int) + 1 := IntWalk.i64_in _ (by omega)
      have hx := itq_lt hm0 j
      have hS2 : its stq (j + 1) m = stq (its stq j m) := rfl
      rw [hS2]
      generalize its stq j m = x at *
      have b1 : IntKind.i64.wrap ((x : Int) * 2) = ((x * 2 : Nat) : Int) := by rw [w_i64 (by omega) (by omega)]; omega
      have b2 : ((x * 2 : Nat) : Int).tmod 65536 = ((x * 2 % 65536 : Nat) : Int) := by rw [Int.tmod_eq_emod_of_nonneg (by omega)]; omega
      have b3 : binA .xor (.int .i64 ((x * 2 % 65536 : Nat) : Int)) (.int .i64 4129) = some (.int .i64 ((x * 2 % 65536 ^^^ 4129 : Nat) : Int)) := A_xor (b := 4129) (by omega) (by decide)
      unfold stq
      generalize x * 2 % 65536 ^^^ 4129 = x3 at *
      generalize x * 2 % 65536 = xa at *
      generalize x * 2 = x2 at *
      unfold l132_0
      by_cases q : 32768 ≤ x
      · have q' : (32768 : Int) ≤ (x : Int) := by omega
        simp -dsimp [-i_shl, -i_xor, -i_and, j17, j3, hlt8', b1, b2, b3, q, q', hw]
        exact ⟨by omega, j6, jh, j8, j7⟩
      · have q' : ¬ (32768 : Int) ≤ (x : Int) := by omega
        simp -dsimp [-i_shl, -i_xor, -i_and, j17, j3, hlt8', b1, b2, b3, q, q', hw]
        exact ⟨by omega, j6, jh, j8, j7⟩
    · have : j = 8 := by omega
      subst this
      unfold l132_0
      simp -dsimp [j17, j8, j7, hi, hn]
      exact ⟨by simp -dsimp [j6], by simp -dsimp [j3], by simp -dsimp [jh]⟩
  · obtain ⟨i7, i3, ih⟩ := hI
    simp -dsimp [i3]
theorem SumS_ok (l : List UInt8) (hl : l.length ≤ 262144) : OkF Try.prog 104 [rB l] (.tup [.int .i64 (sumN l), .int .i64 0], []) := by
  refine OkF.W0 hm h104 (of_decide_eq_true rfl) ?_
  unfold c104
  have h0 : ¬ (262144 : Int) < (l.length : Int) := by omega
  have hs := sum_ok l (by omega)
  simp -dsimp [h0]
  refine call_pure hs (by simp) rfl ?_
  simp -dsimp
/-- The two bytes of a number, the higher one first. -/
def twoB (n : Nat) : List UInt8 := [UInt8.ofNat (n / 256), UInt8.ofNat (n % 256)]
def numB (a b : UInt8) : Nat := a.toNat * 256 + b.toNat
theorem u8n {n : Nat} (h : n < 256) : (UInt8.ofNat n).toNat = n := by
  rw [UInt8.toNat_ofNat']
  exact Nat.mod_eq_of_lt (by simpa using h)
theorem num_two {n : Nat} (h : n < 65536) : numB (UInt8.ofNat (n / 256)) (UInt8.ofNat (n % 256)) = n := by
  unfold numB
  rw [u8n (by omega), u8n (by omega)]
  omega
theorem OkF.Wo {sh : Nat → Bool} {f : Nat} {C : Cmd} {ts : List Nat} {nt : Nat} (hf : compF Try.prog sh f = some (C, ts, nt)) {args : List V} (nt0 : args.length ≤ nt) {r : V × List LB}
    (hw : Ex.W Try.prog C (fun e s => endK e (∃ own : List Nat, own.Nodup ∧ expV s.h own (resV ts s.t) = some r.1 ∧ own.mapM (expB s.h own) = some r.2)) ⟨initT args, none0, 0⟩ ⟨⟩ ⟨⟩) (hpb : ∀ b ∈ r.2, V.pureL b.cells = true ∧ b.mp = none) : OkF Try.prog f args r :=
  OkF.of hm hf nt0 (wpA_mono C (fun e s h => by cases e <;> exact h) hw) hpb
theorem fl_two {n : Nat} (h : n < 65536) : fl byteCd (twoB n) = [.int .u8 ((n / 256 : Nat) : Int), .int .u8 ((n % 256 : Nat) : Int)] := by
  show [V.int .u8 ((UInt8.ofNat (n / 256)).toNat : Int), V.int .u8 ((UInt8.ofNat (n % 256)).toNat : Int)] = _
  rw [u8n (by omega), u8n (by omega)]
theorem two_ok {n : Nat} (h : n < 65536) : OkF Try.prog 130 [.int .i64 n] (.sl 0 0 0 2 (some 2), [⟨0, 1, fl byteCd (twoB n), none⟩]) := by
  refine OkF.Wo h130 (of_decide_eq_true rfl) ?_ (fun b hb => ?_)
  · unfold c130
    rw [fl_two h]
    have a1 : binA .shr (.int .i64 (n : Int)) (.int .u64 8) = some (.int .i64 ((n / 256 : Nat) : Int)) := A_shr (j := 8) (by decide)
    have w1 : IntKind.u8.wrap ((n / 256 : Nat) : Int) = ((n / 256 : Nat) : Int) := IntWalk.u8_in _ (by omega)
    have w2 : IntKind.u8.wrap (n : Int) = ((n % 256 : Nat) : Int) := by
      show (n : Int) % 256 = _
      omega
    generalize n / 256 = x at *
    generalize n % 256 = y at *
    simp -dsimp [-i_shr, a1, w1, w2, fillA]
    trace_state
    refine ⟨[0], by decide, ?_, ?_⟩
    · simp [expV, exp1, expC, ixOf]
    · simp [expB, roL]
  · simp only [List.mem_singleton] at hb
    subst hb
    exact ⟨fl_pure _, rfl⟩
theorem number_ok {a b : UInt8} {r : List UInt8} : OkF Try.prog 109 [rB (a :: b :: r)] (.int .i64 (numB a b), []) := by
  refine OkF.W0 hm h109 (of_decide_eq_true rfl) ?_
  unfold c109
  have g0 : (a :: b :: r)[0]? = some a := rfl
  have g1 : (a :: b :: r)[1]? = some b := rfl
  have x0 : ∀ {h : Hp} {K : V → List Nat → Prop}, iaddrK h (rB (a :: b :: r)) (.int .i64 0) 1 K ⟨⟩ = K (.rp (fl byteCd (a :: b :: r)) 0) [] := fun {h K} => b_ia (k := 0) g0
  have x1 : ∀ {h : Hp} {K : V → List Nat → Prop}, iaddrK h (rB (a :: b :: r)) (.int .i64 1) 1 K ⟨⟩ = K (.rp (fl byteCd (a :: b :: r)) 1) [] := fun {h K} => b_ia (k := 1) g1
  have y0 : ∀ {h : Hp}, ldA h (.rp (fl byteCd (a :: b :: r)) 0) none = some (.int .u8 a.toNat) := fun {h} => b_ld (k := 0) g0
  have y1 : ∀ {h : Hp}, ldA h (.rp (fl byteCd (a :: b :: r)) 1) none = some (.int .u8 b.toNat) := fun {h} => b_ld (k := 1) g1
  have ha := a.toNat_lt
  have hb := b.toNat_lt
  generalize (a :: b :: r) = l at *
  have w1 : IntKind.i64.wrap (a.toNat : Int) = (a.toNat : Int) := w_i64 (by omega) (by omega)
  have w2 : IntKind.i64.wrap (b.toNat : Int) = (b.toNat : Int) := w_i64 (by omega) (by omega)
  have a1 : binA .shl (.int .i64 (a.toNat : Int)) (.int .u64 8) = some (.int .i64 ((a.toNat * 256 : Nat) : Int)) := A_shl (j := 8) (by decide) (by omega)
  have a2 : binA .or (.int .i64 ((a.toNat * 256 : Nat) : Int)) (.int .i64 (b.toNat : Int)) = some (.int .i64 (numB a b : Nat)) := by
    rw [A_or (by omega) (by omega)]
    unfold numB
    have : a.toNat * 256 ||| b.toNat = a.toNat * 256 + b.toNat := by
      rw [Nat.mul_comm, show (256 : Nat) = 2 ^ 8 from rfl, ← Nat.two_pow_add_eq_or_of_lt (by omega)]
    rw [this]
  generalize numB a b = n at *
  generalize a.toNat * 256 = a8 at *
  simp -dsimp [-i_shl, -i_or, x0, x1, y0, y1, w1, w2, a1, a2]
end Go.Proofs.P3
