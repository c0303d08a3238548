/- Sums of bytes, in plain Lean and as the program makes them. -/
import Derived.Test.YtjldiihndmkpfaaP3T
import Derived.Test.YtjldiihndmkpfaaP3l
set_option linter.unusedVariables false
set_option linter.unusedSimpArgs false
set_option maxRecDepth 10000
set_option maxHeartbeats 8000000
namespace Go.Proofs.P3
open Go.Ex
def byteCd : Cd UInt8 := ⟨1, fun b => [.int .u8 b.toNat], fun _ => rfl, fun _ => rfl⟩
abbrev rB (l : List UInt8) : V := .ro l.length (fl byteCd l)
section
variable {h : Hp} {k : Nat} {kk : IntKind} {K : V → List Nat → Prop} {l : List UInt8} {a : UInt8}
theorem b_ia (e : l[k]? = some a) : iaddrK h (.ro l.length (fl byteCd l)) (.int kk k) 1 K ⟨⟩ = K (.rp (fl byteCd l) k) [] := by
  have := iaddr_fl (d := byteCd) (n := 1) (kk := kk) (h := h) (K := K) rfl (by decide) e
  rwa [Nat.mul_one] at this
theorem b_ld (e : l[k]? = some a) : ldA h (.rp (fl byteCd l) k) none = some (.int .u8 a.toNat) := by
  have := ld_fl0 (d := byteCd) (n := 1) (h := h) rfl (by decide) e
  rw [Nat.mul_one] at this
  exact this
end
theorem A_shl {k : IntKind} {a j : Nat} (h : j ≤ 61) (ha : a * 2 ^ j < 2 ^ 62) : binA .shl (.int .i64 (a : Int)) (.int k (j : Int)) = some (.int .i64 ((a * 2 ^ j : Nat) : Int)) := by
  rw [i_shl, if_neg (by omega), Int.toNat_natCast, Nat.min_eq_left (by simp only [IntKind.bits]; omega), ← pow_cast, ← Int.natCast_mul]
  generalize a * 2 ^ j = m at ha ⊢
  rw [w_i64 (by omega) (by omega)]
/-- One bit of a sum. -/
def stp (s : Nat) : Nat := if s * 2 &&& 65536 = 0 then s * 2 else s * 2 ^^^ 69665
def stq (s : Nat) : Nat := if 32768 ≤ s then s * 2 % 65536 ^^^ 4129 else s * 2 % 65536
theorem stp_stq {s : Nat} (h : s < 65536) : stp s = stq s := by
  unfold stp stq
  by_cases c : 32768 ≤ s
  · obtain ⟨r, hr, hr2⟩ : ∃ r, s * 2 = 2 ^ 16 + r ∧ r < 2 ^ 16 := ⟨s * 2 - 65536, by omega, by omega⟩
    have h1 : (s * 2).testBit 16 = true := by rw [hr, Nat.testBit_two_pow_add_eq, Nat.testBit_lt_two_pow hr2]; rfl
    have h2 : s * 2 &&& 65536 ≠ 0 := fun q => by
      have : (s * 2 &&& 65536).testBit 16 = true := by rw [Nat.testBit_and, h1]; decide
      rw [q] at this
      simp at this
    rw [if_neg h2, if_pos c]
    have h3 : s * 2 % 65536 = r := by omega
    have h4 : 2 ^ 16 + r = r ^^^ 2 ^ 16 := by rw [← or_bit_lt hr2, Nat.or_comm, ← Nat.mul_one (2 ^ 16), Nat.two_pow_add_eq_or_of_lt hr2]
    rw [h3, hr, h4, Nat.xor_assoc]
    congr 1
  · have h1 : s * 2 < 2 ^ 16 := by omega
    have h2 : s * 2 &&& 65536 = 0 := by
      apply Nat.eq_of_testBit_eq
      intro i
      rw [Nat.testBit_and, Nat.zero_testBit]
      by_cases q : i = 16
      · subst q
        rw [Nat.testBit_lt_two_pow h1]
        rfl
      · have : (65536 : Nat).testBit i = false := by
          rw [show (65536 : Nat) = 2 ^ 16 from rfl, Nat.testBit_two_pow]
          simp
          omega
        rw [this, Bool.and_false]
    rw [if_pos h2, if_neg c]
    omega
theorem stq_lt {s : Nat} (h : s < 65536) : stq s < 65536 := by
  unfold stq
  split
  · exact Nat.xor_lt_two_pow (n := 16) (by omega) (by decide)
  · omega
theorem stp_lt {s : Nat} (h : s < 65536) : stp s < 65536 := by rw [stp_stq h]; exact stq_lt h
def its (f : Nat → Nat) : Nat → Nat → Nat
  | 0, s => s
  | k + 1, s => f (its f k s)
theorem its_lt {s : Nat} (h : s < 65536) : ∀ k, its stp k s < 65536
  | 0 => h
  | k + 1 => stp_lt (its_lt h k)
def byt (f : Nat → Nat) (s : Nat) (c : UInt8) : Nat := its f 8 (s ^^^ c.toNat * 256)
theorem mix_lt {s : Nat} (h : s < 65536) (c : UInt8) : s ^^^ c.toNat * 256 < 65536 := Nat.xor_lt_two_pow (n := 16) (by omega) (by have := c.toNat_lt; omega)
theorem byt_lt {s : Nat} (h : s < 65536) (c : UInt8) : byt stp s c < 65536 := its_lt (mix_lt h c) 8
def sums (f : Nat → Nat) (l : List UInt8) : Nat → Nat
  | 0 => 65535
  | k + 1 => byt f (sums f l k) ((l[k]?).getD 0)
theorem sums_lt (l : List UInt8) : ∀ k, sums stp l k < 65536
  | 0 => by show 65535 < 65536; decide
  | k + 1 => byt_lt (sums_lt l k) _
def sumN (l : List UInt8) : Nat := sums stp l l.length
theorem sumN_lt (l : List UInt8) : sumN l < 65536 := sums_lt l _
theorem bt_at {l : List UInt8} {k : Nat} (h : k < l.length) : l[k]? = some ((l[k]?).getD 0) := by
  rw [List.getElem?_eq_getElem h]; rfl
theorem Sum_ok (l : List UInt8) (hl : l.length < 2 ^ 62) : OkF Try.prog 105 [rB l] (.int .i64 (sumN l), []) := by
  refine OkF.W0 hm h105 (of_decide_eq_true rfl) ?_
  unfold c105
  simp -dsimp
  refine for_lt l.length (fun k t => t.t 6 = rB l ∧ t.t 3 = .int .i64 (sums stp l k) ∧ t.h = none0) rfl hl ⟨by simp -dsimp, by simp -dsimp [sums], by simp -dsimp⟩ (by simp -dsimp) (by simp -dsimp) (fun k t hk hI hi hn => ?_) (fun t hI hi hn => ?_)
  · obtain ⟨i6, i3, ih⟩ := hI
    have hg := bt_at hk
    have hS : sums stp l (k + 1) = its stp 8 (sums stp l k ^^^ ((l[k]?).getD 0).toNat * 256) := rfl
    have hlt := sums_lt l k
    rw [hS]
    generalize (l[k]?).getD 0 = c at *
    generalize sums stp l k = s at *
    have hc := c.toNat_lt
    have hm0 := mix_lt hlt c
    have w1 : IntKind.i64.wrap (c.toNat : Int) = (c.toNat : Int) := w_i64 (by omega) (by omega)
    have a1 : binA .shl (.int .i64 (c.toNat : Int)) (.int .u64 8) = some (.int .i64 ((c.toNat * 256 : Nat) : Int)) := A_shl (j := 8) (by decide) (by omega)
    have a2 : binA .xor (.int .i64 (s : Int)) (.int .i64 ((c.toNat * 256 : Nat) : Int)) = some (.int .i64 ((s ^^^ c.toNat * 256 : Nat) : Int)) := A_xor (by omega) (by omega)
    generalize s ^^^ c.toNat * 256 = m at *
    generalize c.toNat * 256 = c8 at *
    unfold k105_1
    simp -dsimp [-i_shl, -i_xor, i6, i3, hi, b_ia hg, b_ld hg, w1, a1, a2]
    refine loop_to 17 8 (fun j t' => t'.t 17 = .int .i64 j ∧ t'.t 3 = .int .i64 (its stp j m) ∧ t'.t 6 = rB l ∧ t'.h = none0 ∧ t'.t 8 = .int .i64 k ∧ t'.t 7 = .int .i64 l.length) (fun j t' h => h.1) ⟨by simp -dsimp, by simp -dsimp [its], by simp -dsimp [i6], by simp -dsimp [ih], by simp -dsimp [hi], by simp -dsimp [hn]⟩ (fun j t' hj hJ => ?_)
    obtain ⟨j17, j3, j6, jh, j8, j7⟩ := hJ
    by_cases hlt8 : j < 8
    · have hlt8' : (j : Int) < 8 := by omega
      have hw : IntKind.i64.wrap ((j : Int) + 1) = (j : Int) + 1 := IntWalk.i64_in _ (by omega)
      have hx := its_lt hm0 j
      have hS2 : its stp (j + 1) m = stp (its stp j m) := rfl
      rw [hS2]
      generalize its stp j m = x at *
      have b1 : binA .shl (.int .i64 (x : Int)) (.int .u64 1) = some (.int .i64 ((x * 2 : Nat) : Int)) := A_shl (j := 1) (by decide) (by omega)
      have b2 : binA .and (.int .i64 ((x * 2 : Nat) : Int)) (.int .i64 65536) = some (.int .i64 ((x * 2 &&& 65536 : Nat) : Int)) := A_and (b := 65536) (by omega) (by decide)
      have b3 : binA .xor (.int .i64 ((x * 2 : Nat) : Int)) (.int .i64 69665) = some (.int .i64 ((x * 2 ^^^ 69665 : Nat) : Int)) := A_xor (b := 69665) (by omega) (by decide)
      unfold stp
      generalize x * 2 ^^^ 69665 = x3 at *
      generalize x * 2 &&& 65536 = xa at *
      generalize x * 2 = x2 at *
      unfold l105_0
      by_cases q : xa = 0
      · have q' : (xa : Int) = 0 := by omega
        simp -dsimp [-i_shl, -i_xor, -i_and, j17, j3, hlt8', b1, b2, b3, q, q', hw]
        exact ⟨by omega, j6, jh, j8, j7⟩
      · have q' : ¬ (xa : Int) = 0 := by omega
        simp -dsimp [-i_shl, -i_xor, -i_and, j17, j3, hlt8', b1, b2, b3, q, q', hw]
        exact ⟨by omega, j6, jh, j8, j7⟩
    · have : j = 8 := by omega
      subst this
      unfold l105_0
      simp -dsimp [j17, j8, j7, hi, hn]
      exact ⟨by simp -dsimp [j6], by simp -dsimp [j3], by simp -dsimp [jh]⟩
  · obtain ⟨i6, i3, ih⟩ := hI
    simp -dsimp [i3]
    rfl
end Go.Proofs.P3
