/- The form of a date; the day of a moment, both sides. -/
import Derived.Test.YtjldiihndmkpfaaDoorH6
set_option linter.unusedVariables false
set_option linter.unusedSimpArgs false
set_option maxRecDepth 10000
set_option maxHeartbeats 8000000
namespace Go.Proofs.P4
open Go.Ex
theorem u8_inj {a b : UInt8} : ((a.toNat : Int) = (b.toNat : Int)) ↔ a = b := by
  constructor
  · intro h
    exact UInt8.toNat_inj.1 (by omega)
  · rintro rfl; rfl
theorem formed_ok (s : List UInt8) (b : Bool) (hb : b = true ↔ Fm s) : OkF Tryd.prog 39 [.str s] (.bool b, []) := by
  refine OkF.W0 hm h39 (of_decide_eq_true rfl) ?_
  unfold c39
  by_cases hl : s.length = 23
  rotate_left
  · have hl' : ¬ (s.length : Int) = 23 := by omega
    have e : b = false := by
      cases b with
      | false => rfl
      | true => exact absurd (hb.1 rfl).1 hl
    subst e
    simp -dsimp [hl']
  have hl' : (s.length : Int) = 23 := by omega
  simp -dsimp [hl']
  refine loop_to 4 23 (fun k t => t.t 4 = .int .i64 k ∧ t.t 0 = .str s ∧ t.t 3 = .str form ∧ t.h = none0 ∧ ∀ (i : Nat) f c, i < k → form[i]? = some f → s[i]? = some c → okc f c) (fun k t h => h.1) ⟨by simp -dsimp, by simp -dsimp, by simp -dsimp [form], by simp -dsimp, fun i f c hi => by omega⟩ (fun k t hk hI => ?_)
  obtain ⟨i4, i0, i3, ih, iu⟩ := hI
  by_cases hlt : k < 23
  · have hlt' : (k : Int) < 23 := by omega
    have gf := digG (s := form) (k := k) (by exact hlt)
    have gc := digG (s := s) (k := k) (by omega)
    generalize form.getD k 0 = f at *
    generalize s.getD k 0 = c at *
    have gf' : form[((k : Nat) : Int).toNat]? = some f := by rw [Int.toNat_natCast]; exact gf
    have gc' : s[((k : Nat) : Int).toNat]? = some c := by rw [Int.toNat_natCast]; exact gc
    have hw : IntKind.i64.wrap ((k : Int) + 1) = (k : Int) + 1 := IntWalk.i64_in _ (by omega)
    have bad : ¬ okc f c → b = false := fun q => by
      cases b with
      | false => rfl
      | true => exact absurd ((hb.1 rfl).2 k f c gf gc) q
    have good : okc f c → ∀ (i : Nat) f c, i < k + 1 → form[i]? = some f → s[i]? = some c → okc f c := fun q i f' c' hi hf hc => by
      rcases Nat.lt_or_ge i k with w | w
      · exact iu i f' c' w hf hc
      · have : i = k := by omega
        subst this
        rw [gf] at hf
        rw [gc] at hc
        injection hf with hf
        injection hc with hc
        subst hf hc
        exact q
    unfold l39_0
    by_cases q : f = 48
    · subst q
      have e : okc 48 c ↔ isD c := by unfold okc; rw [if_pos rfl]
      rw [e] at bad good
      unfold isD at bad good
      by_cases q1 : (c.toNat : Int) < 48
      · have hbad := bad (by omega)
        subst hbad
        simp -dsimp [i0, i3, i4, hl', hlt', gf, gf', gc, gc', q1]
      · by_cases q2 : 57 < (c.toNat : Int)
        · have hbad := bad (by omega)
          subst hbad
          simp -dsimp [i0, i3, i4, hl', hlt', gf, gf', gc, gc', q1, q2]
        · simp -dsimp [i0, i3, i4, hl', hlt', gf, gf', gc, gc', q1, q2, hw]
          exact ⟨by omega, ih, good (by omega)⟩
    · have q' : ¬ (f.toNat : Int) = 48 := fun w => q (u8_inj (b := 48) |>.1 w)
      have e : okc f c ↔ c = f := by unfold okc; rw [if_neg q]
      rw [e] at bad good
      by_cases q1 : c = f
      · subst q1
        simp -dsimp [i0, i3, i4, hl', hlt', gf, gf', gc, gc', q', hw]
        exact ⟨by omega, ih, good rfl⟩
      · have q1' : ¬ (c.toNat : Int) = (f.toNat : Int) := fun w => q1 (u8_inj.1 w)
        have hbad := bad q1
        subst hbad
        simp -dsimp [i0, i3, i4, hl', hlt', gf, gf', gc, gc', q', q1', hw]
  · have hkl : k = 23 := by omega
    subst hkl
    have e : b = true := hb.2 ⟨hl, fun i f c hf hc => iu i f c (by have := (List.getElem?_eq_some_iff.1 hc).1; omega) hf hc⟩
    subst e
    unfold l39_0
    simp -dsimp [i0, i4, hl']
end Go.Proofs.P4

