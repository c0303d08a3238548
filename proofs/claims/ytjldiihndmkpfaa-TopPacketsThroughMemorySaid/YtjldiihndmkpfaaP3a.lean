/- Words: bits, marks, kinds; both sides. -/
import Derived.Test.YtjldiihndmkpfaaP3C
import Derived.Test.YtjldiihndmkpfaaP3m
import Derived.Test.YtjldiihndmkpfaaExX
set_option linter.unusedVariables false
set_option linter.unusedSimpArgs false
set_option maxRecDepth 10000
set_option maxHeartbeats 4000000
namespace Go.Proofs.P3
open Go.Ex
def inB (n lo hi : Int) : Bool := decide (lo ≤ n) && decide (n ≤ hi)
theorem In_ok (n lo hi : Int) : OkF Try.prog 63 [.int .i64 n, .int .i64 lo, .int .i64 hi] (.bool (inB n lo hi), []) := by
  refine OkF.W0 hm h63 (of_decide_eq_true rfl) ?_
  unfold c63 inB
  by_cases h : lo ≤ n <;> simp -dsimp [h]
theorem within_ok (n lo hi : Int) : OkF Try.prog 93 [.int .i64 n, .int .i64 lo, .int .i64 hi] (.bool (inB n lo hi), []) := by
  refine OkF.W0 hm h93 (of_decide_eq_true rfl) ?_
  unfold c93 inB
  by_cases h : lo ≤ n <;> simp -dsimp [h]
def rngE (n lo hi : Int) : Int := if inB n lo hi = false then 1 else 0
theorem Range_ok (n lo hi : Int) : OkF Try.prog 66 [.int .i64 n, .int .i64 lo, .int .i64 hi] (.int .i64 (rngE n lo hi), []) := by
  refine OkF.W0 hm h66 (of_decide_eq_true rfl) ?_
  unfold c66
  simp -dsimp
  refine call_bool (In_ok _ _ _) ?_
  simp -dsimp
  refine condK_of ?_ ?_ <;> intro q <;> simp -dsimp [q] <;> simp_all [rngE]
/-- The first fault. -/
def firstE : List Int → Int
  | [] => 0
  | a :: l => if a = 0 then firstE l else a
def lAt (l : List Int) (k : Nat) : Int := (l[k]?).getD 0
theorem fe_first : ∀ (l : List Int), fe (lAt l) l.length = firstE l := by
  have key : ∀ (l : List Int) (a : Int) (n : Nat), fe (lAt (a :: l)) (n + 1) = if a = 0 then fe (lAt l) n else a := by
    intro l a n
    induction n with
    | zero => simp [fe, lAt]
    | succ n ih =>
      unfold fe
      rw [ih]
      by_cases h : a = 0
      · simp only [if_pos h]
        split <;> rename_i q
        · simp [lAt]
        · rfl
      · simp only [if_neg h]
  intro l
  induction l with
  | nil => rfl
  | cons a l ih =>
    rw [List.length_cons, key, ih]
    rfl
theorem First_ok (l : List Int) (hl : l.length < 2 ^ 62) : OkF Try.prog 65 [.ro l.length (fl (Cd.int .i64) l)] (.int .i64 (firstE l), []) := by
  refine OkF.W0 hm h65 (of_decide_eq_true rfl) ?_
  rw [← fe_first]
  unfold c65
  simp -dsimp
  refine for_lt l.length (fun k t => t.t 5 = .ro l.length (fl (Cd.int .i64) l) ∧ fe (lAt l) k = 0) rfl hl (by simp -dsimp [fe]) (by simp -dsimp) (by simp -dsimp) (fun k t hk hI hi hn => ?_) (fun t hI hi hn => ?_)
  · obtain ⟨i5, iu⟩ := hI
    have hg : l[k]? = some l[k] := List.getElem?_eq_getElem hk
    generalize l[k] = a at hg
    have hE : lAt l k = a := by simp [lAt, hg]
    have e1 : ∀ K, iaddrK t.h (.ro l.length (fl (Cd.int .i64) l)) (.int .i64 k) 1 K ⟨⟩ = K (.rp (fl (Cd.int .i64) l) k) [] := fun K => by
      have := iaddr_fl (d := Cd.int .i64) (n := 1) (kk := .i64) (h := t.h) (K := K) rfl (by decide) hg
      rwa [Nat.mul_one] at this
    have e2 : ∀ h, ldA h (.rp (fl (Cd.int .i64) l) k) none = some (.int .i64 a) := fun h => by
      have := ld_fl0 (d := Cd.int .i64) (n := 1) (h := h) rfl (by decide) hg
      rw [Nat.mul_one] at this
      exact this
    unfold k65_0
    simp -dsimp [i5, hi, hn, e1, e2]
    refine condK_of ?_ ?_ <;> intro q <;> simp -dsimp [q, i5, hi, hn]
    · rw [fe_stop iu (by rw [hE]; simpa using q) hk, hE]
    · exact fe_step iu (by rw [hE]; simpa using q)
  · obtain ⟨i5, iu⟩ := hI
    simp -dsimp [iu]
/-- What a bit counts. -/
def bt (n : Nat) : Nat := 2 ^ (n - 1)
theorem bt_lt {n : Nat} (h : n ≤ 62) : bt n < 2 ^ 62 := Nat.pow_lt_pow_right (by decide) (by omega)
theorem bt_zero {c i : Nat} : (c &&& bt i = 0) ↔ c.testBit (i - 1) = false := bit_zero
theorem A_bt {k : IntKind} {n : Nat} (h : n ≤ 62) : binA .shl (.int .i64 1) (.int k ((n - 1 : Nat) : Int)) = some (.int .i64 ((bt n : Nat) : Int)) := A_shl1 (by omega)
theorem bit_ok {n : Nat} (h1 : 1 ≤ n) (h2 : n ≤ 62) : OkF Try.prog 99 [.int .i64 (n : Int)] (.int .i64 ((bt n : Nat) : Int), []) := by
  refine OkF.W0 hm h99 (of_decide_eq_true rfl) ?_
  unfold c99
  have e1 : IntKind.i64.wrap ((n : Int) - 1) = ((n - 1 : Nat) : Int) := by rw [w_i64 (by omega) (by omega)]; omega
  simp -dsimp [-i_shl, e1, A_bt (k := .i64) (n := n) h2]
theorem check_ok {n : Nat} (h1 : 1 ≤ n) (h2 : n ≤ 21) : OkF Try.prog 98 [.int .i64 (n : Int)] (.bool (isCk n), []) := by
  refine OkF.W0 hm h98 (of_decide_eq_true rfl) ?_
  unfold c98
  have e1 : IntKind.i64.wrap ((n : Int) - 1) = ((n - 1 : Nat) : Int) := by rw [w_i64 (by omega) (by omega)]; omega
  have e2 : ¬ (n : Int) = 22 := by omega
  have e3 : ∀ n : Fin 22, 1 ≤ n.val → decide ((n.val &&& (n.val - 1)) = 0) = isCk n.val := by decide
  have e3 := e3 ⟨n, by omega⟩ h1
  simp only at e3
  simp -dsimp [-i_and, e1, e2, A_and (a := n) (b := n - 1) (by omega) (by omega)]
  rw [← e3]
  by_cases q : (n &&& (n - 1)) = 0
  · have q' : ((n &&& (n - 1) : Nat) : Int) = 0 := by omega
    simp -dsimp [q, q']
  · have q' : ¬ ((n &&& (n - 1) : Nat) : Int) = 0 := by omega
    simp -dsimp [q, q', e2]
theorem isCheck_ok {n : Nat} (h1 : 1 ≤ n) (h2 : n ≤ 21) : OkF Try.prog 143 [.int .i64 (n : Int)] (.bool (isCk n), []) := by
  refine OkF.W0 hm h143 (of_decide_eq_true rfl) ?_
  unfold c143
  have e1 : IntKind.i64.wrap ((n : Int) - 1) = ((n - 1 : Nat) : Int) := by rw [w_i64 (by omega) (by omega)]; omega
  have e3 : ∀ n : Fin 22, 1 ≤ n.val → decide ((n.val &&& (n.val - 1)) = 0) = isCk n.val := by decide
  have e3 := e3 ⟨n, by omega⟩ h1
  simp only at e3
  simp -dsimp [-i_and, e1, A_and (a := n) (b := n - 1) (by omega) (by omega), e3]
theorem has_ok {c n : Nat} (hc : c < 2 ^ 62) (h1 : 1 ≤ n) (h2 : n ≤ 62) : OkF Try.prog 144 [.int .i64 (c : Int), .int .i64 (n : Int)] (.bool (c.testBit (n - 1)), []) := by
  refine OkF.W0 hm h144 (of_decide_eq_true rfl) ?_
  unfold c144
  have e1 : IntKind.i64.wrap ((n : Int) - 1) = ((n - 1 : Nat) : Int) := by rw [w_i64 (by omega) (by omega)]; omega
  have e2 : c / 2 ^ (n - 1) < 2 ^ 62 := Nat.lt_of_le_of_lt (Nat.div_le_self _ _) hc
  have h3 := A_shr (k := .i64) (a := c) (j := n - 1) (by omega)
  have h4 := A_one e2
  rw [Nat.testBit_eq_decide_div_mod_eq]
  generalize c / 2 ^ (n - 1) = d at h3 h4 ⊢
  generalize d % 2 = m at h4 ⊢
  simp -dsimp [-i_and, -i_shr, e1, h3, h4]
  omega
theorem mark_ok {c : Nat} (hc : c < 2 ^ 22) : OkF Try.prog 100 [.int .i64 (c : Int)] (.int .i64 (markN c : Nat), []) := by
  refine OkF.W0 hm h100 (of_decide_eq_true rfl) ?_
  unfold c100
  simp -dsimp
  refine loop_left 21 (fun n t => ∃ m : Nat, t.t 0 = .int .i64 (c : Int) ∧ t.t 3 = .int .i64 (m : Int) ∧ t.t 4 = .int .i64 ((22 - n : Nat) : Int) ∧ m < 32 ∧ xmark n (22 - n) c m = markN c) ⟨0, by simp -dsimp [markN]⟩ (fun t hI => ?_) (fun n t hn hI => ?_)
  · obtain ⟨m, i0, i3, i4, hm, hx⟩ := hI
    unfold l100_0
    simp only [xmark] at hx
    simp -dsimp [i0, i3, i4, hx]
  · obtain ⟨m, i0, i3, i4, hm, hx⟩ := hI
    obtain ⟨i, hi⟩ : ∃ i : Nat, 22 - (n + 1) = i := ⟨_, rfl⟩
    have hi' : 22 - n = i + 1 := by omega
    rw [hi] at i4 hx
    rw [hi']
    have hlt : ((i : Nat) : Int) < 22 := by omega
    have hw : IntKind.i64.wrap ((i : Int) + 1) = ((i + 1 : Nat) : Int) := by rw [w_i64 (by omega) (by omega)]; omega
    have ha := A_and (a := c) (b := bt i) (by omega) (bt_lt (by omega))
    have hxo := A_xor (a := m) (b := i) (by omega) (by omega)
    have hb := bt_zero (c := c) (i := i)
    unfold l100_0
    simp -dsimp [i0, i3, i4, hlt]
    refine call_int (bit_ok (n := i) (by omega) (by omega)) ?_
    simp -dsimp [-i_and, ha, i0, i4]
    simp only [xmark] at hx
    by_cases q : c &&& bt i = 0
    · rw [hb.1 q] at hx
      simp -dsimp [q, i0, i3, i4, hw]
      exact ⟨m, rfl, hm, by simpa using hx⟩
    · have hb' : c.testBit (i - 1) = true := by cases hbb : c.testBit (i - 1) with | true => rfl | false => exact absurd (hb.2 hbb) q
      rw [hb'] at hx
      have q' : ¬ ((c &&& bt i : Nat) : Int) = 0 := by omega
      simp -dsimp [-i_xor, q', q, i0, i3, i4, hxo, hw]
      exact ⟨m ^^^ i, rfl, Nat.xor_lt_two_pow (n := 5) hm (by omega), by simpa using hx⟩
end Go.Proofs.P3
