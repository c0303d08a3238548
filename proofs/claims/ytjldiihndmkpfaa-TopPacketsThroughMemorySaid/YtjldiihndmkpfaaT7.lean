/- Bytes kept in words, in plain Lean. -/
import Derived.Test.YtjldiihndmkpfaaT6
set_option linter.unusedVariables false
set_option linter.unusedSimpArgs false
set_option maxRecDepth 10000
set_option maxHeartbeats 8000000
namespace Go.Proofs.P3
open Go.Ex
def bAt (e : List UInt8) (k : Nat) : UInt8 := (e[k]?).getD 0
def wrd (e : List UInt8) (k : Nat) : Int := (((bAt e (2 * k)).toNat * 256 + (bAt e (2 * k + 1)).toNat : Nat) : Int)
theorem wrd_in (e : List UInt8) (k : Nat) : inW (wrd e k) := by
  have := (bAt e (2 * k)).toNat_lt
  have := (bAt e (2 * k + 1)).toNat_lt
  unfold inW wrd
  omega
/-- The bit that flips, counted from 1. -/
def bitK (fs : List Int) (k : Nat) : Int := lAt fs (k % fs.length) % 22 + 1
theorem bitK_in (fs : List Int) (k : Nat) : 1 ≤ bitK fs k ∧ bitK fs k ≤ 22 := by unfold bitK; omega
def cod1 (e : List UInt8) (fs : List Int) (k : Nat) : Int := if fs.length = 0 then codI (wrd e k) else xorI (codI (wrd e k)) (bitK fs k)
theorem cod1_in (e : List UInt8) (fs : List Int) (k : Nat) : inC (cod1 e fs k) := by
  unfold cod1
  split
  · exact codI_in _
  · exact xorI_in (codI_in _) (bitK_in fs k).1 (bitK_in fs k).2
theorem cod1_rep (e : List UInt8) (fs : List Int) (k : Nat) : repI (cod1 e fs k) = codI (wrd e k) := by
  unfold cod1
  split
  · exact repI_codI _
  · exact repI_flip _ (bitK_in fs k).1 (bitK_in fs k).2
theorem cod1_dec (e : List UInt8) (fs : List Int) (k : Nat) : (decE (cod1 e fs k)).1 = wrd e k ∧ (decE (cod1 e fs k)).2.2 = 0 := by
  unfold cod1
  split
  · exact dec_codI (wrd_in e k)
  · exact dec_flip (wrd_in e k) (bitK_in fs k).1 (bitK_in fs k).2
def wsE (e : List UInt8) : Nat → List Int
  | 0 => []
  | k + 1 => wsE e k ++ [wrd e k]
def csE (e : List UInt8) (fs : List Int) : Nat → List Int
  | 0 => []
  | k + 1 => csE e fs k ++ [cod1 e fs k]
theorem wsE_len (e : List UInt8) : ∀ k, (wsE e k).length = k
  | 0 => rfl
  | k + 1 => by rw [wsE, List.length_append, wsE_len]; rfl
theorem csE_len (e : List UInt8) (fs : List Int) : ∀ k, (csE e fs k).length = k
  | 0 => rfl
  | k + 1 => by rw [csE, List.length_append, csE_len]; rfl
theorem wsE_in (e : List UInt8) : ∀ k, ∀ x ∈ wsE e k, inW x
  | 0, x, h => by cases h
  | k + 1, x, h => by
    rw [wsE, List.mem_append, List.mem_singleton] at h
    rcases h with h | rfl
    · exact wsE_in e k x h
    · exact wrd_in e k
theorem csE_in (e : List UInt8) (fs : List Int) : ∀ k, ∀ x ∈ csE e fs k, inC x
  | 0, x, h => by cases h
  | k + 1, x, h => by
    rw [csE, List.mem_append, List.mem_singleton] at h
    rcases h with h | rfl
    · exact csE_in e fs k x h
    · exact cod1_in e fs k
theorem csE_at (e : List UInt8) (fs : List Int) : ∀ k i, i < k → lAt (csE e fs k) i = cod1 e fs i
  | 0, i, h => by omega
  | k + 1, i, h => by
    unfold lAt
    rw [csE]
    rcases Nat.lt_or_ge i k with q | q
    · rw [List.getElem?_append_left (by rw [csE_len]; exact q)]
      exact csE_at e fs k i q
    · have : i = k := by omega
      subst this
      rw [List.getElem?_append_right (by rw [csE_len]; omega), csE_len, Nat.sub_self]
      rfl
theorem bank_E (e : List UInt8) (fs : List Int) {k : Nat} (h0 : 0 < k) (h1 : k ≤ 2000) : BankOk (csE e fs k, wsE e k) :=
  ⟨by rw [csE_len]; exact h0, by rw [csE_len]; exact h1, by rw [csE_len, wsE_len], csE_in e fs k, wsE_in e k⟩
/-- What is read of a bank that was gone through for a part. -/
theorem scr_dec (e : List UInt8) (fs : List Int) {k m i : Nat} (hm : m ≤ k) (hi : i < k) : (decE (lAt (scr 0 0 (csE e fs k) m).2 i)).1 = wrd e i ∧ (decE (lAt (scr 0 0 (csE e fs k) m).2 i)).2.2 = 0 := by
  rw [scr_from0 (csE_in e fs k) m (by rw [csE_len]; exact hm), csE_at e fs k i hi]
  split
  · rw [cod1_rep]
    exact dec_codI (wrd_in e i)
  · exact cod1_dec e fs i
theorem bank_S (e : List UInt8) (fs : List Int) {k m : Nat} (h0 : 0 < k) (h1 : k ≤ 2000) : BankOk ((scr 0 0 (csE e fs k) m).2, wsE e k) := by
  have hl := scr_len 0 0 (csE e fs k) m
  have hc := csE_len e fs k
  exact ⟨by rw [hl.1, hc]; exact h0, by rw [hl.1, hc]; exact h1, by rw [hl.1, hc, wsE_len], scr_in (by rw [hc]; exact h0) (csE_in e fs k) m, wsE_in e k⟩
theorem wrd_hi (e : List UInt8) (k : Nat) : (wrd e k).toNat / 256 = (bAt e (2 * k)).toNat ∧ (wrd e k).toNat % 256 = (bAt e (2 * k + 1)).toNat := by
  have := (bAt e (2 * k)).toNat_lt
  have := (bAt e (2 * k + 1)).toNat_lt
  unfold wrd
  omega
theorem take_two (e : List UInt8) (k : Nat) (h : 2 * k + 1 < e.length) : e.take (2 * (k + 1)) = e.take (2 * k) ++ [bAt e (2 * k), bAt e (2 * k + 1)] := by
  have g0 : e[2 * k]? = some (bAt e (2 * k)) := by unfold bAt; rw [List.getElem?_eq_getElem (by omega)]; rfl
  have g1 : e[2 * k + 1]? = some (bAt e (2 * k + 1)) := by unfold bAt; rw [List.getElem?_eq_getElem h]; rfl
  rw [show 2 * (k + 1) = 2 * k + 1 + 1 by omega, List.take_add_one, List.take_add_one, g0, g1]
  simp
/-- Bytes, filled up to an even number. -/
def evn (l : List UInt8) : List UInt8 := if l.length % 2 = 1 then l ++ [0] else l
theorem evn_pad (l : List UInt8) : ∃ pad, evn l = l ++ pad ∧ pad.length ≤ 1 := by
  unfold evn
  split
  · exact ⟨[0], rfl, by decide⟩
  · exact ⟨[], by simp, by decide⟩
theorem evn_len (l : List UInt8) : ∃ k, (evn l).length = 2 * k ∧ l.length ≤ 2 * k ∧ 2 * k ≤ l.length + 1 := by
  unfold evn
  split
  · exact ⟨(l.length + 1) / 2, by rw [List.length_append]; show l.length + 1 = _; omega, by omega, by omega⟩
  · exact ⟨l.length / 2, by omega, by omega, by omega⟩
end Go.Proofs.P3
