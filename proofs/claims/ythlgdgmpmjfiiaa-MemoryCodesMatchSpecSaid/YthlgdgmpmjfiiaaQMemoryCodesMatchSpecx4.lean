/- Written by a program of this session (wip/myprint.py). Lean checks it. -/
import Derived.Test.YthlgdgmpmjfiiaaQMemoryCodesMatchSpecx0
import Derived.Test.YthlgdgmpmjfiiaaQMemoryCodesMatchSpecx1
import Derived.Test.YthlgdgmpmjfiiaaQMemoryCodesMatchSpecx2
import Derived.Test.YthlgdgmpmjfiiaaQMemoryCodesMatchSpecx3
namespace Go.Proofs.Ythlgdgmpmjfiiaa.QMemoryCodesMatchSpec
open Go.RowKit Go.Proofs.YthlgdgmpmjfiiaaW.PrintWords Go.Proofs.YthlgdgmpmjfiiaaW.PrintLast Go.Proofs.YthlgdgmpmjfiiaaW.PrintMore
attribute [local go_sem] max2_int min2_int max_two min_two max_three min_three max_four min_four   -- for this text's walks alone
set_option linter.unusedVariables false
set_option linter.unusedSimpArgs false

/-! ### perigeelaw3_MemoryCodesMatchSpec: function 3 -/
mutual
def perigeelaw3_MemoryCodesMatchSpec.j0 : Nat → Int → Bool → Option (Bool)
  | 0, _, _ => none
  | k + 1, x1, x30 => if x30 = true then (some false) else ((memory_Decoded.f k x1).bind fun bt157 => ((perigeeref3_Decoded.f k x1).bind fun bt160 => (if bt157.2.2 = bt160.2.2 then (if bt157.1 = bt160.1 then (perigeelaw3_MemoryCodesMatchSpec.j1 k x1 (bt157.2.1 != bt160.2.1)) else (perigeelaw3_MemoryCodesMatchSpec.j1 k x1 true)) else (perigeelaw3_MemoryCodesMatchSpec.j1 k x1 true))))
def perigeelaw3_MemoryCodesMatchSpec.j1 : Nat → Int → Bool → Option (Bool)
  | 0, _, _ => none
  | k + 1, x1, x55 => if x55 = true then (some false) else ((memory_Kind.f k x1).bind fun bt163 => ((perigeeref3_Kind.f k x1).bind fun bt166 => (if bt163.2.2 = bt166.2.2 then (if bt163.1 = bt166.1 then (if bt163.2.1 = bt166.2.1 then ((perigeelaw3_awake.f k).bind fun t169 => (some t169)) else (some false)) else (some false)) else (some false))))
end
def perigeelaw3_MemoryCodesMatchSpec.f (k : Nat) (a0 : Int) (a1 : Int) : Option (Bool) := (memory_Coded.f k a0).bind fun bt153 => ((perigeeref3_Coded.f k a0).bind fun bt155 => (if bt153.2 = bt155.2 then (perigeelaw3_MemoryCodesMatchSpec.j0 k a1 (bt153.1 != bt155.1)) else (perigeelaw3_MemoryCodesMatchSpec.j0 k a1 true)))
theorem perigeelaw3_MemoryCodesMatchSpec.mono_l : ∀ k, (∀ y0 y1, LeO (perigeelaw3_MemoryCodesMatchSpec.j0 k y0 y1) (perigeelaw3_MemoryCodesMatchSpec.j0 (k + 1) y0 y1)) ∧ (∀ y0 y1, LeO (perigeelaw3_MemoryCodesMatchSpec.j1 k y0 y1) (perigeelaw3_MemoryCodesMatchSpec.j1 (k + 1) y0 y1))
  | 0 => ⟨fun _ _ r h => by simp [perigeelaw3_MemoryCodesMatchSpec.j0] at h, fun _ _ r h => by simp [perigeelaw3_MemoryCodesMatchSpec.j1] at h⟩
  | k + 1 => by
    obtain ⟨ih0, ih1⟩ := perigeelaw3_MemoryCodesMatchSpec.mono_l k
    refine ⟨?_, ?_⟩
    · intro y0 y1
      unfold perigeelaw3_MemoryCodesMatchSpec.j0
      repeat' first
      | (with_reducible exact ih0 _ _)
      | (with_reducible exact ih1 _ _)
      | (with_reducible exact memory_Coded.mono _ _)
      | (with_reducible exact memory_Decoded.mono _ _)
      | (with_reducible exact memory_Kind.mono _ _)
      | (with_reducible exact perigeelaw3_awake.mono _)
      | (with_reducible exact perigeeref3_Coded.mono _ _)
      | (with_reducible exact perigeeref3_Decoded.mono _ _)
      | (with_reducible exact perigeeref3_Kind.mono _ _)
      | (with_reducible exact LeO.refl _)
      | (with_reducible exact LeO.none _)
      | (with_reducible refine LeO.ite ?_ ?_)
      | (with_reducible refine LeO.bind ?_ (fun _ => ?_))
      | exact ih0 _ _
      | exact ih1 _ _
      | exact memory_Coded.mono _ _
      | exact memory_Decoded.mono _ _
      | exact memory_Kind.mono _ _
      | exact perigeelaw3_awake.mono _
      | exact perigeeref3_Coded.mono _ _
      | exact perigeeref3_Decoded.mono _ _
      | exact perigeeref3_Kind.mono _ _
      | exact LeO.none _
      | refine LeO.ite ?_ ?_
      | refine LeO.bind ?_ (fun _ => ?_)
    · intro y0 y1
      unfold perigeelaw3_MemoryCodesMatchSpec.j1
      repeat' first
      | (with_reducible exact ih0 _ _)
      | (with_reducible exact ih1 _ _)
      | (with_reducible exact memory_Coded.mono _ _)
      | (with_reducible exact memory_Decoded.mono _ _)
      | (with_reducible exact memory_Kind.mono _ _)
      | (with_reducible exact perigeelaw3_awake.mono _)
      | (with_reducible exact perigeeref3_Coded.mono _ _)
      | (with_reducible exact perigeeref3_Decoded.mono _ _)
      | (with_reducible exact perigeeref3_Kind.mono _ _)
      | (with_reducible exact LeO.refl _)
      | (with_reducible exact LeO.none _)
      | (with_reducible refine LeO.ite ?_ ?_)
      | (with_reducible refine LeO.bind ?_ (fun _ => ?_))
      | exact ih0 _ _
      | exact ih1 _ _
      | exact memory_Coded.mono _ _
      | exact memory_Decoded.mono _ _
      | exact memory_Kind.mono _ _
      | exact perigeelaw3_awake.mono _
      | exact perigeeref3_Coded.mono _ _
      | exact perigeeref3_Decoded.mono _ _
      | exact perigeeref3_Kind.mono _ _
      | exact LeO.none _
      | refine LeO.ite ?_ ?_
      | refine LeO.bind ?_ (fun _ => ?_)
theorem perigeelaw3_MemoryCodesMatchSpec.mono : ∀ a0 a1 k, LeO (perigeelaw3_MemoryCodesMatchSpec.f k a0 a1) (perigeelaw3_MemoryCodesMatchSpec.f (k + 1) a0 a1) := by
  intro a0 a1 k
  obtain ⟨ih0, ih1⟩ := perigeelaw3_MemoryCodesMatchSpec.mono_l k
  unfold perigeelaw3_MemoryCodesMatchSpec.f
  repeat' first
      | (with_reducible exact ih0 _ _)
      | (with_reducible exact ih1 _ _)
      | (with_reducible exact memory_Coded.mono _ _)
      | (with_reducible exact memory_Decoded.mono _ _)
      | (with_reducible exact memory_Kind.mono _ _)
      | (with_reducible exact perigeelaw3_awake.mono _)
      | (with_reducible exact perigeeref3_Coded.mono _ _)
      | (with_reducible exact perigeeref3_Decoded.mono _ _)
      | (with_reducible exact perigeeref3_Kind.mono _ _)
      | (with_reducible exact LeO.refl _)
      | (with_reducible exact LeO.none _)
      | (with_reducible refine LeO.ite ?_ ?_)
      | (with_reducible refine LeO.bind ?_ (fun _ => ?_))
      | exact ih0 _ _
      | exact ih1 _ _
      | exact memory_Coded.mono _ _
      | exact memory_Decoded.mono _ _
      | exact memory_Kind.mono _ _
      | exact perigeelaw3_awake.mono _
      | exact perigeeref3_Coded.mono _ _
      | exact perigeeref3_Decoded.mono _ _
      | exact perigeeref3_Kind.mono _ _
      | exact LeO.none _
      | refine LeO.ite ?_ ?_
      | refine LeO.bind ?_ (fun _ => ?_)
set_option maxHeartbeats 8000000 in
set_option maxRecDepth 100000 in
theorem perigeelaw3_MemoryCodesMatchSpec.calls (k : Nat) (a0 : Int) (a1 : Int) (r : Bool) (w : World) (h : perigeelaw3_MemoryCodesMatchSpec.f k a0 a1 = some r) :
    Calls Try.prog 3 #[.int .i64 a0, .int .i64 a1] w fun e w' => e = .returned (.bool r) ∧ Drawn0 w w' := by
  have H : ((memory_Coded.f k a0).bind fun bt153 => ((perigeeref3_Coded.f k a0).bind fun bt155 => (if bt153.2 = bt155.2 then (perigeelaw3_MemoryCodesMatchSpec.j0 k a1 (bt153.1 != bt155.1)) else (perigeelaw3_MemoryCodesMatchSpec.j0 k a1 true)))) = some r := h
  clear h
  replace H := Option.bind_eq_some_iff.mp H
  obtain ⟨⟨t153, t154⟩, A30, H⟩ := H
  replace H : ((perigeeref3_Coded.f k a0).bind fun bt155 => (if t154 = bt155.2 then (perigeelaw3_MemoryCodesMatchSpec.j0 k a1 (t153 != bt155.1)) else (perigeelaw3_MemoryCodesMatchSpec.j0 k a1 true))) = some r := H
  have A3 := Aside0.mk A30
  clear A30
  replace H := Option.bind_eq_some_iff.mp H
  obtain ⟨⟨t155, t156⟩, A40, H⟩ := H
  replace H : (if t154 = t156 then (perigeelaw3_MemoryCodesMatchSpec.j0 k a1 (t153 != t155)) else (perigeelaw3_MemoryCodesMatchSpec.j0 k a1 true)) = some r := H
  have A4 := Aside0.mk A40
  clear A40
  have HC5 := Aside0.mk H
  clear H
  go_enter Try.func3, Try.ntmps3
  go_upto_region 3 with (first | ((with_reducible refine gate_callee (f := 11) rfl ?_); refine goesL_ (some 15) rfl rfl Try.func11 (by kernel_rfl) rfl #[.int .i64 a0] rfl (by (try simp only [List.map_toArray, List.map_cons, List.map_nil]); first | done | rfl | (simp only [List.length_drop, List.length_take]; rfl)) ?_; (with_reducible refine (memory_Coded.calls k a0 t153 t154 _ A3.out).mono ?_); rintro e w' ⟨rfl, ⟨nd, rfl⟩⟩; refine ⟨_, rfl, ?_⟩) | ((with_reducible refine gate_callee (f := 12) rfl ?_); refine goesL_ (some 20) rfl rfl Try.func12 (by kernel_rfl) rfl #[.int .i64 a0] rfl (by (try simp only [List.map_toArray, List.map_cons, List.map_nil]); first | done | rfl | (simp only [List.length_drop, List.length_take]; rfl)) ?_; (with_reducible refine (perigeeref3_Coded.calls k a0 t155 t156 _ A4.out).mono ?_); rintro e w' ⟨rfl, ⟨nd, rfl⟩⟩; refine ⟨_, rfl, ?_⟩))
  (try simp only [Act.put, List.setIfInBounds_toArray, List.set_cons_zero, List.set_cons_succ])
  go_cut [30] (fun v30 wc => ∃ (kq : Nat) (x30_4 : Bool), v30 = .bool x30_4 ∧ Aside0 (perigeelaw3_MemoryCodesMatchSpec.j0 kq a1 x30_4 = some r) ∧ Aside0 (kq ≤ k) ∧ Drawn0 w wc)
  case first =>
    have H := HC5.out
    clear HC5
    by_cases c6 : t154 = t156
    · rw [if_pos c6] at H
      have c6b0 : (t154 == t156) = true := beq_iff_eq.mpr c6
      have c6b1 : (t154 != t156) = false := bne_eq_false_iff_eq.mpr c6
      clear c6
      (first | rw [c6b0] | (simp only [i64_w, i32_w]; rw [c6b0]) | skip)
      have H' := Aside0.mk H
      clear H
      go_wp2
      go_meet
      case rel => exact ⟨_, ((t153 != t155)), (by first | rfl | (simp; done) | (simp [*]; done)), H', ⟨by first | omega | exact Nat.le_refl _⟩, by repeat (first | exact Drawn0.refl _ | apply Drawn0.step)⟩
    · rw [if_neg c6] at H
      have c6b0 : (t154 == t156) = false := beq_eq_false_iff_ne.mpr c6
      have c6b1 : (t154 != t156) = true := bne_iff_ne.mpr c6
      (first | rw [c6b0] | (simp only [i64_w, i32_w]; rw [c6b0]) | skip)
      have H' := Aside0.mk H
      clear H
      go_wp2
      go_meet
      case rel => exact ⟨_, (true), (by first | rfl | (simp; done) | (simp [*]; done)), H', ⟨by first | omega | exact Nat.le_refl _⟩, by repeat (first | exact Drawn0.refl _ | apply Drawn0.step)⟩
  case rest =>
    clear HC5
    try clear c1
    try clear p2
    try clear c3
    try clear c6
    try clear c6b0
    try clear c6b1
    obtain ⟨kq, x30_4, rfl, HA, HJ4, ⟨mc4, rfl⟩⟩ := hcut
    cases kq with
    | zero => exact absurd HA.out (by simp [perigeelaw3_MemoryCodesMatchSpec.j0])
    | succ kj4 =>
      have H := HA.out
      clear HA
      simp only [perigeelaw3_MemoryCodesMatchSpec.j0] at H
      by_cases c7 : x30_4 = true
      · subst c7
        have H1 : (some false) = some r := by rw [if_pos rfl] at H; exact H
        clear H
        have H := H1
        clear H1
        obtain rfl := Option.some.inj H
        go_wp2
        go_ret
        exact ⟨by first | rfl | (simp; done) | (simp [*]; done), by repeat (first | exact Drawn0.refl _ | apply Drawn0.step)⟩
      · replace c7 := Bool.eq_false_iff.mpr c7
        subst c7
        have H1 : ((memory_Decoded.f kj4 a1).bind fun bt157 => ((perigeeref3_Decoded.f kj4 a1).bind fun bt160 => (if bt157.2.2 = bt160.2.2 then (if bt157.1 = bt160.1 then (perigeelaw3_MemoryCodesMatchSpec.j1 kj4 a1 (bt157.2.1 != bt160.2.1)) else (perigeelaw3_MemoryCodesMatchSpec.j1 kj4 a1 true)) else (perigeelaw3_MemoryCodesMatchSpec.j1 kj4 a1 true)))) = some r := by rw [if_neg (show ¬ (false = true) by decide)] at H; exact H
        clear H
        have H := H1
        clear H1
        replace H := Option.bind_eq_some_iff.mp H
        obtain ⟨⟨t157, t158, t159⟩, A80, H⟩ := H
        replace H : ((perigeeref3_Decoded.f kj4 a1).bind fun bt160 => (if t159 = bt160.2.2 then (if t157 = bt160.1 then (perigeelaw3_MemoryCodesMatchSpec.j1 kj4 a1 (t158 != bt160.2.1)) else (perigeelaw3_MemoryCodesMatchSpec.j1 kj4 a1 true)) else (perigeelaw3_MemoryCodesMatchSpec.j1 kj4 a1 true))) = some r := H
        have A8 := Aside0.mk A80
        clear A80
        replace H := Option.bind_eq_some_iff.mp H
        obtain ⟨⟨t160, t161, t162⟩, A90, H⟩ := H
        replace H : (if t159 = t162 then (if t157 = t160 then (perigeelaw3_MemoryCodesMatchSpec.j1 kj4 a1 (t158 != t161)) else (perigeelaw3_MemoryCodesMatchSpec.j1 kj4 a1 true)) else (perigeelaw3_MemoryCodesMatchSpec.j1 kj4 a1 true)) = some r := H
        have A9 := Aside0.mk A90
        clear A90
        have HC10 := Aside0.mk H
        clear H
        go_upto_region 7 with (first | ((with_reducible refine gate_callee (f := 13) rfl ?_); refine goesL_ (some 33) rfl rfl Try.func13 (by kernel_rfl) rfl #[.int .i64 a1] rfl (by (try simp only [List.map_toArray, List.map_cons, List.map_nil]); first | done | rfl | (simp only [List.length_drop, List.length_take]; rfl)) ?_; (with_reducible refine (memory_Decoded.calls kj4 a1 t157 t158 t159 _ A8.out).mono ?_); rintro e w' ⟨rfl, ⟨nd, rfl⟩⟩; refine ⟨_, rfl, ?_⟩) | ((with_reducible refine gate_callee (f := 14) rfl ?_); refine goesL_ (some 39) rfl rfl Try.func14 (by kernel_rfl) rfl #[.int .i64 a1] rfl (by (try simp only [List.map_toArray, List.map_cons, List.map_nil]); first | done | rfl | (simp only [List.length_drop, List.length_take]; rfl)) ?_; (with_reducible refine (perigeeref3_Decoded.calls kj4 a1 t160 t161 t162 _ A9.out).mono ?_); rintro e w' ⟨rfl, ⟨nd, rfl⟩⟩; refine ⟨_, rfl, ?_⟩))
        (try simp only [Act.put, List.setIfInBounds_toArray, List.set_cons_zero, List.set_cons_succ])
        go_cut [55] (fun v55 wc => ∃ (kq : Nat) (x55_9 : Bool), v55 = .bool x55_9 ∧ Aside0 (perigeelaw3_MemoryCodesMatchSpec.j1 kq a1 x55_9 = some r) ∧ Aside0 (kq ≤ kj4) ∧ Drawn0 w wc)
        case first =>
          have H := HC10.out
          clear HC10
          by_cases c11 : t159 = t162
          · rw [if_pos c11] at H
            have c11b0 : (t159 == t162) = true := beq_iff_eq.mpr c11
            have c11b1 : (t159 != t162) = false := bne_eq_false_iff_eq.mpr c11
            clear c11
            (first | rw [c11b0] | (simp only [i64_w, i32_w]; rw [c11b0]) | skip)
            by_cases c12 : t157 = t160
            · rw [if_pos c12] at H
              have c12b0 : (t157 == t160) = true := beq_iff_eq.mpr c12
              have c12b1 : (t157 != t160) = false := bne_eq_false_iff_eq.mpr c12
              clear c12
              have H' := Aside0.mk H
              clear H
              go_wp2
              go_meet
              case rel => exact ⟨_, ((t158 != t161)), (by first | rfl | (simp; done) | (simp [*]; done)), H', ⟨by have := HJ4.out; first | omega | exact Nat.le_refl _⟩, by repeat (first | exact Drawn0.refl _ | apply Drawn0.step)⟩
            · rw [if_neg c12] at H
              have c12b0 : (t157 == t160) = false := beq_eq_false_iff_ne.mpr c12
              have c12b1 : (t157 != t160) = true := bne_iff_ne.mpr c12
              have H' := Aside0.mk H
              clear H
              go_wp2
              go_meet
              case rel => exact ⟨_, (true), (by first | rfl | (simp; done) | (simp [*]; done)), H', ⟨by have := HJ4.out; first | omega | exact Nat.le_refl _⟩, by repeat (first | exact Drawn0.refl _ | apply Drawn0.step)⟩
          · rw [if_neg c11] at H
            have c11b0 : (t159 == t162) = false := beq_eq_false_iff_ne.mpr c11
            have c11b1 : (t159 != t162) = true := bne_iff_ne.mpr c11
            (first | rw [c11b0] | (simp only [i64_w, i32_w]; rw [c11b0]) | skip)
            have H' := Aside0.mk H
            clear H
            go_wp2
            go_meet
            case rel => exact ⟨_, (true), (by first | rfl | (simp; done) | (simp [*]; done)), H', ⟨by have := HJ4.out; first | omega | exact Nat.le_refl _⟩, by repeat (first | exact Drawn0.refl _ | apply Drawn0.step)⟩
        case rest =>
          clear HC10
          try clear c1
          try clear p2
          try clear c3
          try clear c4
          try clear c6
          try clear c6b0
          try clear c6b1
          try clear c7
          try clear c11
          try clear c11b0
          try clear c11b1
          try clear c12
          try clear c12b0
          try clear c12b1
          try clear p2
          obtain ⟨kq, x55_9, rfl, HA, HJ9, ⟨mc9, rfl⟩⟩ := hcut
          cases kq with
          | zero => exact absurd HA.out (by simp [perigeelaw3_MemoryCodesMatchSpec.j1])
          | succ kj9 =>
            have H := HA.out
            clear HA
            simp only [perigeelaw3_MemoryCodesMatchSpec.j1] at H
            by_cases c13 : x55_9 = true
            · subst c13
              have H1 : (some false) = some r := by rw [if_pos rfl] at H; exact H
              clear H
              have H := H1
              clear H1
              obtain rfl := Option.some.inj H
              go_wp2
              go_ret
              exact ⟨by first | rfl | (simp; done) | (simp [*]; done), by repeat (first | exact Drawn0.refl _ | apply Drawn0.step)⟩
            · replace c13 := Bool.eq_false_iff.mpr c13
              subst c13
              have H1 : ((memory_Kind.f kj9 a1).bind fun bt163 => ((perigeeref3_Kind.f kj9 a1).bind fun bt166 => (if bt163.2.2 = bt166.2.2 then (if bt163.1 = bt166.1 then (if bt163.2.1 = bt166.2.1 then ((perigeelaw3_awake.f kj9).bind fun t169 => (some t169)) else (some false)) else (some false)) else (some false)))) = some r := by rw [if_neg (show ¬ (false = true) by decide)] at H; exact H
              clear H
              have H := H1
              clear H1
              replace H := Option.bind_eq_some_iff.mp H
              obtain ⟨⟨t163, t164, t165⟩, A140, H⟩ := H
              replace H : ((perigeeref3_Kind.f kj9 a1).bind fun bt166 => (if t165 = bt166.2.2 then (if t163 = bt166.1 then (if t164 = bt166.2.1 then ((perigeelaw3_awake.f kj9).bind fun t169 => (some t169)) else (some false)) else (some false)) else (some false))) = some r := H
              have A14 := Aside0.mk A140
              clear A140
              replace H := Option.bind_eq_some_iff.mp H
              obtain ⟨⟨t166, t167, t168⟩, A150, H⟩ := H
              replace H : (if t165 = t168 then (if t163 = t166 then (if t164 = t167 then ((perigeelaw3_awake.f kj9).bind fun t169 => (some t169)) else (some false)) else (some false)) else (some false)) = some r := H
              have A15 := Aside0.mk A150
              clear A150
              by_cases c16 : t165 = t168
              · rw [if_pos c16] at H
                have c16b0 : (t165 == t168) = true := beq_iff_eq.mpr c16
                have c16b1 : (t165 != t168) = false := bne_eq_false_iff_eq.mpr c16
                clear c16
                by_cases c17 : t163 = t166
                · rw [if_pos c17] at H
                  have c17b0 : (t163 == t166) = true := beq_iff_eq.mpr c17
                  have c17b1 : (t163 != t166) = false := bne_eq_false_iff_eq.mpr c17
                  clear c17
                  by_cases c18 : t164 = t167
                  · rw [if_pos c18] at H
                    have c18b0 : (t164 == t167) = true := beq_iff_eq.mpr c18
                    have c18b1 : (t164 != t167) = false := bne_eq_false_iff_eq.mpr c18
                    clear c18
                    replace H := Option.bind_eq_some_iff.mp H
                    obtain ⟨t169, A190, H⟩ := H
                    replace H : (some t169) = some r := H
                    have A19 := Aside0.mk A190
                    clear A190
                    obtain rfl := Option.some.inj H
                    go_wp2_with (first | ((with_reducible refine gate_callee (f := 15) rfl ?_); refine goesL_ (some 58) rfl rfl Try.func15 (by kernel_rfl) rfl #[.int .i64 a1] rfl (by (try simp only [List.map_toArray, List.map_cons, List.map_nil]); first | done | rfl | (simp only [List.length_drop, List.length_take]; rfl)) ?_; (with_reducible refine (memory_Kind.calls kj9 a1 t163 t164 t165 _ A14.out).mono ?_); rintro e w' ⟨rfl, ⟨nd, rfl⟩⟩; refine ⟨_, rfl, ?_⟩) | ((with_reducible refine gate_callee (f := 16) rfl ?_); refine goesL_ (some 64) rfl rfl Try.func16 (by kernel_rfl) rfl #[.int .i64 a1] rfl (by (try simp only [List.map_toArray, List.map_cons, List.map_nil]); first | done | rfl | (simp only [List.length_drop, List.length_take]; rfl)) ?_; (with_reducible refine (perigeeref3_Kind.calls kj9 a1 t166 t167 t168 _ A15.out).mono ?_); rintro e w' ⟨rfl, ⟨nd, rfl⟩⟩; refine ⟨_, rfl, ?_⟩) | (go_at_call 17; (with_reducible refine (perigeelaw3_awake.calls kj9  t169 _ A19.out).mono ?_); rintro e w' ⟨rfl, ⟨nd, rfl⟩⟩))
                    go_ret
                    exact ⟨by first | rfl | (simp; done) | (simp [*]; done), by repeat (first | exact Drawn0.refl _ | apply Drawn0.step)⟩
                  · rw [if_neg c18] at H
                    have c18b0 : (t164 == t167) = false := beq_eq_false_iff_ne.mpr c18
                    have c18b1 : (t164 != t167) = true := bne_iff_ne.mpr c18
                    obtain rfl := Option.some.inj H
                    go_wp2_with (first | ((with_reducible refine gate_callee (f := 15) rfl ?_); refine goesL_ (some 58) rfl rfl Try.func15 (by kernel_rfl) rfl #[.int .i64 a1] rfl (by (try simp only [List.map_toArray, List.map_cons, List.map_nil]); first | done | rfl | (simp only [List.length_drop, List.length_take]; rfl)) ?_; (with_reducible refine (memory_Kind.calls kj9 a1 t163 t164 t165 _ A14.out).mono ?_); rintro e w' ⟨rfl, ⟨nd, rfl⟩⟩; refine ⟨_, rfl, ?_⟩) | ((with_reducible refine gate_callee (f := 16) rfl ?_); refine goesL_ (some 64) rfl rfl Try.func16 (by kernel_rfl) rfl #[.int .i64 a1] rfl (by (try simp only [List.map_toArray, List.map_cons, List.map_nil]); first | done | rfl | (simp only [List.length_drop, List.length_take]; rfl)) ?_; (with_reducible refine (perigeeref3_Kind.calls kj9 a1 t166 t167 t168 _ A15.out).mono ?_); rintro e w' ⟨rfl, ⟨nd, rfl⟩⟩; refine ⟨_, rfl, ?_⟩))
                    go_ret
                    exact ⟨by first | rfl | (simp; done) | (simp [*]; done), by repeat (first | exact Drawn0.refl _ | apply Drawn0.step)⟩
                · rw [if_neg c17] at H
                  have c17b0 : (t163 == t166) = false := beq_eq_false_iff_ne.mpr c17
                  have c17b1 : (t163 != t166) = true := bne_iff_ne.mpr c17
                  obtain rfl := Option.some.inj H
                  go_wp2_with (first | ((with_reducible refine gate_callee (f := 15) rfl ?_); refine goesL_ (some 58) rfl rfl Try.func15 (by kernel_rfl) rfl #[.int .i64 a1] rfl (by (try simp only [List.map_toArray, List.map_cons, List.map_nil]); first | done | rfl | (simp only [List.length_drop, List.length_take]; rfl)) ?_; (with_reducible refine (memory_Kind.calls kj9 a1 t163 t164 t165 _ A14.out).mono ?_); rintro e w' ⟨rfl, ⟨nd, rfl⟩⟩; refine ⟨_, rfl, ?_⟩) | ((with_reducible refine gate_callee (f := 16) rfl ?_); refine goesL_ (some 64) rfl rfl Try.func16 (by kernel_rfl) rfl #[.int .i64 a1] rfl (by (try simp only [List.map_toArray, List.map_cons, List.map_nil]); first | done | rfl | (simp only [List.length_drop, List.length_take]; rfl)) ?_; (with_reducible refine (perigeeref3_Kind.calls kj9 a1 t166 t167 t168 _ A15.out).mono ?_); rintro e w' ⟨rfl, ⟨nd, rfl⟩⟩; refine ⟨_, rfl, ?_⟩))
                  go_ret
                  exact ⟨by first | rfl | (simp; done) | (simp [*]; done), by repeat (first | exact Drawn0.refl _ | apply Drawn0.step)⟩
              · rw [if_neg c16] at H
                have c16b0 : (t165 == t168) = false := beq_eq_false_iff_ne.mpr c16
                have c16b1 : (t165 != t168) = true := bne_iff_ne.mpr c16
                obtain rfl := Option.some.inj H
                go_wp2_with (first | ((with_reducible refine gate_callee (f := 15) rfl ?_); refine goesL_ (some 58) rfl rfl Try.func15 (by kernel_rfl) rfl #[.int .i64 a1] rfl (by (try simp only [List.map_toArray, List.map_cons, List.map_nil]); first | done | rfl | (simp only [List.length_drop, List.length_take]; rfl)) ?_; (with_reducible refine (memory_Kind.calls kj9 a1 t163 t164 t165 _ A14.out).mono ?_); rintro e w' ⟨rfl, ⟨nd, rfl⟩⟩; refine ⟨_, rfl, ?_⟩) | ((with_reducible refine gate_callee (f := 16) rfl ?_); refine goesL_ (some 64) rfl rfl Try.func16 (by kernel_rfl) rfl #[.int .i64 a1] rfl (by (try simp only [List.map_toArray, List.map_cons, List.map_nil]); first | done | rfl | (simp only [List.length_drop, List.length_take]; rfl)) ?_; (with_reducible refine (perigeeref3_Kind.calls kj9 a1 t166 t167 t168 _ A15.out).mono ?_); rintro e w' ⟨rfl, ⟨nd, rfl⟩⟩; refine ⟨_, rfl, ?_⟩))
                go_ret
                exact ⟨by first | rfl | (simp; done) | (simp [*]; done), by repeat (first | exact Drawn0.refl _ | apply Drawn0.step)⟩

/-- THE ONE PURE STATEMENT of perigeelaw3_MemoryCodesMatchSpec: yours. -/
def perigeelaw3_MemoryCodesMatchSpec.Pure : Prop := ∀ (a0 : Int) (a1 : Int), (Lit.int .i64 a0).wf = true → (Lit.int .i64 a1).wf = true → ∃ k, perigeelaw3_MemoryCodesMatchSpec.f k a0 a1 = some true
theorem perigeelaw3_MemoryCodesMatchSpec.walk (P : perigeelaw3_MemoryCodesMatchSpec.Pure) (a0 : Int) (a1 : Int) (w : World) (w0 : (Lit.int .i64 a0).wf = true) (w1 : (Lit.int .i64 a1).wf = true) :
    Calls Try.prog 3 #[.int .i64 a0, .int .i64 a1] w fun e w' => e = .returned (.bool true) ∧ Below w.heap.size w w' := by
  obtain ⟨k, h⟩ := P a0 a1 w0 w1
  refine (perigeelaw3_MemoryCodesMatchSpec.calls k a0 a1 true w h).mono ?_
  rintro e w' ⟨rfl, hd⟩
  exact ⟨rfl, hd.below⟩

end Go.Proofs.Ythlgdgmpmjfiiaa.QMemoryCodesMatchSpec
