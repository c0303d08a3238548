/- Names, commands, numbers in bounds. -/
import Derived.Test.YtaegjihmpgdfcaaP6C
set_option linter.unusedVariables false
set_option linter.unusedSimpArgs false
set_option maxRecDepth 10000
namespace Go.Proofs.P6
open Go.Ex
theorem In_ok (n lo hi : Int) : OkF Try.prog 64 [.int .i64 n, .int .i64 lo, .int .i64 hi] (.bool (decide (lo ≤ n) && decide (n ≤ hi)), []) := by
  refine OkF.W0 hm h64 (of_decide_eq_true rfl) ?_
  unfold c64
  by_cases h : lo ≤ n <;> simp -dsimp [h]
theorem within_ok (n lo hi : Int) : OkF Try.prog 65 [.int .i64 n, .int .i64 lo, .int .i64 hi] (.bool (decide (lo ≤ n) && decide (n ≤ hi)), []) := by
  refine OkF.W0 hm h65 (of_decide_eq_true rfl) ?_
  unfold c65
  by_cases h : lo ≤ n <;> simp -dsimp [h]
def momB (n : Int) : Bool := decide (0 ≤ n) && decide (n ≤ 1000000000000)
theorem inM_ok (n : Int) : OkF Try.prog 64 [.int .i64 n, .int .i64 0, .int .i64 1000000000000] (.bool (momB n), []) := In_ok n 0 1000000000000
theorem moment_ok (n : Int) : OkF Try.prog 73 [.int .i64 n] (.bool (momB n), []) := by
  refine OkF.W0 hm h73 (of_decide_eq_true rfl) ?_
  unfold c73
  simp -dsimp []
  refine call_bool (within_ok n 0 1000000000000) ?_
  simp [momB]
def nmC (c : UInt8) : Bool := (decide (97 ≤ c.toNat) && decide (c.toNat ≤ 122)) || (decide (48 ≤ c.toNat) && decide (c.toNat ≤ 57)) || decide (c.toNat = 45) || decide (c.toNat = 95)
def ltr (c : UInt8) : Bool := decide (97 ≤ c.toNat) && decide (c.toNat ≤ 122)
/-- A name. -/
def nm (s : List UInt8) : Bool := s.all nmC && decide (s.length ≤ 40) && (match s with | [] => false | c :: _ => ltr c)
def visC (c : UInt8) : Bool := decide (33 ≤ c.toNat) && decide (c.toNat ≤ 126)
def vis (s : List UInt8) : Bool := !s.isEmpty && decide (s.length ≤ 40) && s.all visC
theorem Name_ok (s : List UInt8) : OkF Try.prog 137 [.str s] (.bool (vis s), []) := by
  refine OkF.W0 hm h137 (of_decide_eq_true rfl) ?_
  by_cases h1 : s = []
  · subst h1
    unfold c137
    simp -dsimp [vis]
  have h1' : s.isEmpty = false := by simpa using h1
  by_cases h2 : s.length ≤ 40
  · have h2' : ¬ (40 < (s.length : Int)) := by omega
    unfold c137
    simp -dsimp [h1, h2']
    refine for_lt s.length (fun k s' => s'.t 0 = .str s ∧ (s.take k).all visC = true) rfl (by omega) (by simp) (by simp) (by simp) (fun k s' hk hI hi hn => ?_) (fun s' hI hi hn => ?_)
    · obtain ⟨i1, i3⟩ := hI
      have hg : s[k]? = some s[k] := List.getElem?_eq_getElem hk
      generalize s[k] = c at hg
      by_cases e1 : ((c.toNat : Int) < 33)
      · have hv : visC c = false := by unfold visC; simp; omega
        unfold k137_0
        simp -dsimp [i1, hi, hn, hg, e1, vis, all_false hg hv]
      · by_cases e2 : (126 < (c.toNat : Int))
        · have hv : visC c = false := by unfold visC; simp; omega
          unfold k137_0
          simp -dsimp [i1, hi, hn, hg, e1, e2, vis, all_false hg hv]
        · have hv : visC c = true := by unfold visC; simp; omega
          unfold k137_0
          simp -dsimp [i1, hi, hn, hg, e1, e2, all_take_succ hg i3 hv]
    · obtain ⟨i1, i3⟩ := hI
      rw [List.take_length] at i3
      simp [vis, h1, h2, i1, i3]
  · have h2' : (40 < (s.length : Int)) := by omega
    unfold c137
    simp -dsimp [vis, h1, h2, h2']
theorem nm_vis {s : List UInt8} (h : nm s = true) : vis s = true := by
  unfold nm at h
  simp only [Bool.and_eq_true] at h
  obtain ⟨⟨h1, h2⟩, h3⟩ := h
  unfold vis
  simp only [Bool.and_eq_true]
  refine ⟨⟨?_, h2⟩, ?_⟩
  · cases s with
    | nil => simp at h3
    | cons c r => rfl
  · rw [List.all_eq_true] at h1 ⊢
    intro c hc
    have := h1 c hc
    unfold nmC at this
    unfold visC
    simp at this ⊢
    omega
theorem name_ok (s : List UInt8) : OkF Try.prog 91 [.str s] (.bool (nm s), []) := by
  refine OkF.W0 hm h91 (of_decide_eq_true rfl) ?_
  unfold c91
  simp -dsimp []
  refine call_bool (Name_ok s) ?_
  by_cases hv : vis s = true
  · have hl : s.length ≤ 40 := by unfold vis at hv; simp at hv; exact hv.1.2
    obtain ⟨c0, r, hs⟩ : ∃ c r, c :: r = s := by
      cases s with
      | nil => simp [vis] at hv
      | cons c r => exact ⟨c, r, rfl⟩
    have hg0 : s[0]? = some c0 := by rw [← hs]; rfl
    by_cases hlt : ltr c0 = true
    · have hlt' := hlt
      unfold ltr at hlt'
      simp at hlt'
      have e1 : ¬ ((c0.toNat : Int) < 97) := by omega
      have e2 : ¬ (122 < (c0.toNat : Int)) := by omega
      simp [hv, hg0, e1, e2]
      refine for_lt s.length (fun k s' => s'.t 0 = .str s ∧ Upto nmC s k) rfl (by omega) ⟨by simp, Upto.zero _ _⟩ (by simp) (by simp) (fun k s' hk hI hi hn => ?_) (fun s' hI hi hn => ?_)
      · obtain ⟨i1, i3⟩ := hI
        have hg : s[k]? = some s[k] := List.getElem?_eq_getElem hk
        generalize s[k] = c at hg
        unfold k91_0
        simp -dsimp [i1, hi, hn, hg]
        repeat' (first
          | (refine condK_of ?_ ?_ <;> intro q <;> simp -dsimp [q, i1])
          | (refine wantT_of ?_ ?_ <;> intro q <;> simp -dsimp [q, i1])
          | (refine wantF_of ?_ ?_ <;> intro q <;> simp -dsimp [q, i1]))
        all_goals
          simp only [decide_eq_true_eq, decide_eq_false_iff_not, Bool.not_eq_eq_eq_not, Bool.not_true, Bool.not_false] at *
          first
          | (have hc : nmC c = true := by (unfold nmC; simp; omega)
             exact ⟨hi, hn, i3.succ hg hc⟩)
          | (have hc : nmC c = false := by (unfold nmC; simp; omega)
             unfold nm
             rw [all_false hg hc]
             rfl)
      · obtain ⟨i1, i3⟩ := hI
        have : nm s = true := by
          unfold nm
          rw [i3.all, ← hs]
          rw [← hs] at hl
          simpa [hlt] using hl
        simp [this]
    · have : nm s = false := by
        unfold nm
        rw [← hs]
        simp [hlt]
      unfold ltr at hlt
      simp at hlt
      simp [hv, hg0]
      by_cases e1 : ((c0.toNat : Int) < 97)
      · simp -dsimp [e1, this, hg0]
      · have e2 : 122 < (c0.toNat : Int) := by omega
        simp -dsimp [e1, e2, this, hg0]
  · have hn : nm s = false := by
      cases h : nm s with
      | false => rfl
      | true => exact absurd (nm_vis h) hv
    simp [hv, hn]
end Go.Proofs.P6
