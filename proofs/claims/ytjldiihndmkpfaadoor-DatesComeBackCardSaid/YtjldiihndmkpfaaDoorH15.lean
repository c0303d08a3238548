/- The laws of dates. -/
import Derived.Test.YtjldiihndmkpfaaDoorH14
import Derived.Test.YtjldiihndmkpfaaDoorE14a
set_option linter.unusedVariables false
set_option linter.unusedSimpArgs false
set_option maxRecDepth 10000
set_option maxHeartbeats 8000000
namespace Go.Proofs.P4
open Go.Ex
theorem DatesMatchSpec (l : List Int) (time : Int) (text : List UInt8) : OkF Tryd.prog 3 [rI l, .int .i64 time, .str text] (.bool true, []) := by
  refine OkF.W0 hm h3 (of_decide_eq_true rfl) ?_
  unfold c3
  have k1 := Date_ok l time
  have k2 := DateR_ok l time
  have k3 := ReadDate_ok l text
  have k4 := ReadDateR_ok l text
  generalize dateF l time = r at *
  generalize readF l text = q at *
  obtain ⟨x, f⟩ := r
  obtain ⟨n, g⟩ := q
  simp only at *
  simp -dsimp
  refine call_pure k1 (by simp) (by simp [V.pure, V.pureL]) ?_
  simp -dsimp
  refine call_pure k2 (by simp) (by simp [V.pure, V.pureL]) ?_
  simp -dsimp
  refine call_pure k3 (by simp) (by simp [V.pure, V.pureL]) ?_
  simp -dsimp
  refine call_pure k4 (by simp) (by simp [V.pure, V.pureL]) ?_
  simp -dsimp
  refine call_int (CheckLeaps_ok l) ?_
  simp -dsimp
  refine call_int (CheckLeapsR_ok l) ?_
  simp -dsimp
  refine call_pure awake2_ok (by simp) rfl ?_
  simp -dsimp
theorem dateF_fail {l : List Int} {time : Int} (h : (dateF l time).2 ≠ 0) : True := trivial
theorem readF_fail {l : List Int} {s : List UInt8} {n f : Int} (h : readF l s = (n, f)) (hf : f ≠ 0) : n = 0 := by
  unfold readF at h
  split at h
  · simp only [Prod.mk.injEq] at h; exact h.1.symm
  split at h
  · simp only [Prod.mk.injEq] at h; exact h.1.symm
  unfold readT at h
  split at h
  · simp only [Prod.mk.injEq] at h; exact h.1.symm
  split at h
  · simp only [Prod.mk.injEq] at h; exact h.1.symm
  split at h
  · simp only [Prod.mk.injEq] at h; exact h.1.symm
  · simp only [Prod.mk.injEq] at h; exact absurd h.2.symm hf
theorem date_iff {l : List Int} {a b : Int} {s t : List UInt8} (h1 : dateF l a = (s, 0)) (h2 : dateF l b = (t, 0)) : Op.bytesLess s t = decide (a < b) := by
  rcases Int.lt_trichotomy a b with q | q | q
  · rw [date_lt h1 h2 q, decide_eq_true q]
  · subst q
    rw [h1] at h2
    simp only [Prod.mk.injEq, and_true] at h2
    subst h2
    rw [bl_irr, decide_eq_false (by omega)]
  · rw [bl_asymm _ _ (date_lt h2 h1 q), decide_eq_false (by omega)]
theorem DatesComeBack (l : List Int) (time other : Int) (text : List UInt8) : OkF Tryd.prog 4 [rI l, .int .i64 time, .int .i64 other, .str text] (.bool true, []) := by
  refine OkF.W0 hm h4 (of_decide_eq_true rfl) ?_
  unfold c4
  have k1 := Date_ok l time
  have k2 := Date_ok l other
  have k3 := ReadDate_ok l text
  have f1 := @date_read l time
  have f2 := @date_iff l time other
  have f3 := @read_date l
  have f4 := @readF_fail l text
  have k4 := fun s => ReadDate_ok l s
  have k5 := fun n => Date_ok l n
  generalize hr : dateF l time = r at *
  generalize ho : dateF l other = o at *
  generalize hq : readF l text = q at *
  obtain ⟨x, f⟩ := r
  obtain ⟨z, e⟩ := o
  obtain ⟨n, g⟩ := q
  simp only at *
  simp -dsimp
  refine call_pure k1 (by simp) (by simp [V.pure, V.pureL]) ?_
  simp -dsimp
  have tail : ∀ Q : Prop, Q → Q := fun _ q => q
  by_cases hf : f = 0
  · subst hf
    have e1 := f1 rfl
    have k6 := k4 x
    rw [e1] at k6
    simp -dsimp
    refine call_pure k6 (by simp) (by simp [V.pure, V.pureL]) ?_
    simp -dsimp
    refine call_pure k2 (by simp) (by simp [V.pure, V.pureL]) ?_
    by_cases he : e = 0
    · subst he
      have e2 := f2 rfl rfl
      simp -dsimp [e2]
      refine call_pure k3 (by simp) (by simp [V.pure, V.pureL]) ?_
      by_cases hg : g = 0
      · subst hg
        have k7 := k5 n
        rw [f3 hq] at k7
        simp -dsimp
        refine call_pure k7 (by simp) (by simp [V.pure, V.pureL]) ?_
        simp -dsimp
        refine call_pure awake2_ok (by simp) rfl ?_
        simp -dsimp
      · have e3 := f4 rfl hg
        subst e3
        simp -dsimp [hg]
        refine call_pure awake2_ok (by simp) rfl ?_
        simp -dsimp
    · simp -dsimp [he]
      refine call_pure k3 (by simp) (by simp [V.pure, V.pureL]) ?_
      by_cases hg : g = 0
      · subst hg
        have k7 := k5 n
        rw [f3 hq] at k7
        simp -dsimp
        refine call_pure k7 (by simp) (by simp [V.pure, V.pureL]) ?_
        simp -dsimp
        refine call_pure awake2_ok (by simp) rfl ?_
        simp -dsimp
      · have e3 := f4 rfl hg
        subst e3
        simp -dsimp [hg]
        refine call_pure awake2_ok (by simp) rfl ?_
        simp -dsimp
  · simp -dsimp [hf]
    refine call_pure k3 (by simp) (by simp [V.pure, V.pureL]) ?_
    by_cases hg : g = 0
    · subst hg
      have k7 := k5 n
      rw [f3 hq] at k7
      simp -dsimp
      refine call_pure k7 (by simp) (by simp [V.pure, V.pureL]) ?_
      simp -dsimp
      refine call_pure awake2_ok (by simp) rfl ?_
      simp -dsimp
    · have e3 := f4 rfl hg
      subst e3
      simp -dsimp [hg]
      refine call_pure awake2_ok (by simp) rfl ?_
      simp -dsimp
end Go.Proofs.P4

