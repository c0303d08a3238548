/- Written by a program of this session (wip/myprint.py). Lean checks it. -/
import Derived.Test.YthlgdgmpmjfiiaaQMemoryOneFlipIsPutRightx0
import Derived.Test.YthlgdgmpmjfiiaaQMemoryOneFlipIsPutRightx1
namespace Go.Proofs.Ythlgdgmpmjfiiaa.QMemoryOneFlipIsPutRight
open Go.RowKit Go.Proofs.YthlgdgmpmjfiiaaW.PrintWords Go.Proofs.YthlgdgmpmjfiiaaW.PrintLast Go.Proofs.YthlgdgmpmjfiiaaW.PrintMore
attribute [local go_sem] max2_int min2_int max_two min_two max_three min_three max_four min_four   -- for this text's walks alone
set_option linter.unusedVariables false
set_option linter.unusedSimpArgs false

/-! ### memory_Decoded: function 13 -/
def memory_Decoded.l0 : Nat → Int → Int → Int → Int → Int → Option (Int × Int × Int)
  | 0, _, _, _, _, _ => none
  | k + 1, x0, x5, x7, x8, x9 => if x9 < 22 then ((memory_check.f x9).bind fun t122 => (if t122 = true then (memory_Decoded.l0 k x0 x5 x7 x8 (wrap64 (x9 + 1))) else ((memory_bit.f x9).bind fun t123 => (if (Go.bits .and .i64 x0 t123) = 0 then (memory_Decoded.l0 k x0 x5 x7 (wrap64 (x8 + 1)) (wrap64 (x9 + 1))) else (if 0 ≤ x8 then (memory_Decoded.l0 k x0 x5 (Go.bits .or .i64 x7 (shl .i64 1 x8)) (wrap64 (x8 + 1)) (wrap64 (x9 + 1))) else (none)))))) else (some (x7, wrap64 (x5 - 1), 0))
def memory_Decoded.f (k : Nat) (a0 : Int) : Option (Int × Int × Int) := (kit_In.f a0 0 4194303).bind fun t118 => (if t118 = true then ((memory_kind.f k a0).bind fun bt119 => (if bt119.1 = 3 then (some (0, 0, 15)) else ((memory_repaired.f k a0).bind fun t121 => (memory_Decoded.l0 k t121 bt119.1 0 0 1)))) else (some (0, 0, 1)))
theorem memory_Decoded.mono_l : ∀ k, (∀ y0 y1 y2 y3 y4, LeO (memory_Decoded.l0 k y0 y1 y2 y3 y4) (memory_Decoded.l0 (k + 1) y0 y1 y2 y3 y4))
  | 0 => fun _ _ _ _ _ r h => by simp [memory_Decoded.l0] at h
  | k + 1 => by
    have ih0 := memory_Decoded.mono_l k
    · intro y0 y1 y2 y3 y4
      unfold memory_Decoded.l0
      repeat' first
      | (with_reducible exact ih0 _ _ _ _ _)
      | (with_reducible exact memory_kind.mono _ _)
      | (with_reducible exact memory_repaired.mono _ _)
      | (with_reducible exact LeO.refl _)
      | (with_reducible exact LeO.none _)
      | (with_reducible refine LeO.ite ?_ ?_)
      | (with_reducible refine LeO.bind ?_ (fun _ => ?_))
      | exact ih0 _ _ _ _ _
      | exact memory_kind.mono _ _
      | exact memory_repaired.mono _ _
      | exact LeO.none _
      | refine LeO.ite ?_ ?_
      | refine LeO.bind ?_ (fun _ => ?_)
theorem memory_Decoded.mono : ∀ a0 k, LeO (memory_Decoded.f k a0) (memory_Decoded.f (k + 1) a0) := by
  intro a0 k
  have ih0 := memory_Decoded.mono_l k
  unfold memory_Decoded.f
  repeat' first
      | (with_reducible exact ih0 _ _ _ _ _)
      | (with_reducible exact memory_kind.mono _ _)
      | (with_reducible exact memory_repaired.mono _ _)
      | (with_reducible exact LeO.refl _)
      | (with_reducible exact LeO.none _)
      | (with_reducible refine LeO.ite ?_ ?_)
      | (with_reducible refine LeO.bind ?_ (fun _ => ?_))
      | exact ih0 _ _ _ _ _
      | exact memory_kind.mono _ _
      | exact memory_repaired.mono _ _
      | exact LeO.none _
      | refine LeO.ite ?_ ?_
      | refine LeO.bind ?_ (fun _ => ?_)
set_option maxHeartbeats 8000000 in
set_option maxRecDepth 100000 in
theorem memory_Decoded.calls (k : Nat) (a0 : Int) (r1 : Int) (r2 : Int) (r3 : Int) (w : World) (h : memory_Decoded.f k a0 = some (r1, r2, r3)) :
    Calls Try.prog 13 #[.int .i64 a0] w fun e w' => e = .returned (.tuple #[.int .i64 r1, .int .i64 r2, .int .i64 r3]) ∧ Drawn0 w w' := by
  have H : ((kit_In.f a0 0 4194303).bind fun t118 => (if t118 = true then ((memory_kind.f k a0).bind fun bt119 => (if bt119.1 = 3 then (some (0, 0, 15)) else ((memory_repaired.f k a0).bind fun t121 => (memory_Decoded.l0 k t121 bt119.1 0 0 1)))) else (some (0, 0, 1)))) = some (r1, r2, r3) := h
  clear h
  replace H := Option.bind_eq_some_iff.mp H
  obtain ⟨t118, A20, H⟩ := H
  replace H : (if t118 = true then ((memory_kind.f k a0).bind fun bt119 => (if bt119.1 = 3 then (some (0, 0, 15)) else ((memory_repaired.f k a0).bind fun t121 => (memory_Decoded.l0 k t121 bt119.1 0 0 1)))) else (some (0, 0, 1))) = some (r1, r2, r3) := H
  have A2 := Aside0.mk A20
  clear A20
  by_cases c3 : t118 = true
  · subst c3
    have H1 : ((memory_kind.f k a0).bind fun bt119 => (if bt119.1 = 3 then (some (0, 0, 15)) else ((memory_repaired.f k a0).bind fun t121 => (memory_Decoded.l0 k t121 bt119.1 0 0 1)))) = some (r1, r2, r3) := by rw [if_pos rfl] at H; exact H
    clear H
    have H := H1
    clear H1
    replace H := Option.bind_eq_some_iff.mp H
    obtain ⟨⟨t119, t120⟩, A40, H⟩ := H
    replace H : (if t119 = 3 then (some (0, 0, 15)) else ((memory_repaired.f k a0).bind fun t121 => (memory_Decoded.l0 k t121 t119 0 0 1))) = some (r1, r2, r3) := H
    have A4 := Aside0.mk A40
    clear A40
    by_cases c5 : t119 = 3
    · rw [if_pos c5] at H
      have c5b0 : (t119 == 3) = true := beq_iff_eq.mpr c5
      have c5b1 : (t119 != 3) = false := bne_eq_false_iff_eq.mpr c5
      clear c5
      simp only [Option.some.injEq, Prod.mk.injEq] at H
      obtain ⟨rfl, rfl, rfl⟩ := H
      go_enter Try.func13, Try.ntmps13
      go_wp2_with (first | ((with_reducible refine gate_callee (f := 34) rfl ?_); refine goesL_ (some 11) rfl rfl Try.func34 (by kernel_rfl) rfl #[.int .i64 a0, .int .i64 0, .int .i64 4194303] rfl (by (try simp only [List.map_toArray, List.map_cons, List.map_nil]); first | done | rfl | (simp only [List.length_drop, List.length_take]; rfl)) ?_; (with_reducible refine (kit_In.calls a0 0 4194303 true _ A2.out).mono ?_); rintro e w' ⟨rfl, ⟨nd, rfl⟩⟩; refine ⟨_, rfl, ?_⟩) | ((with_reducible refine gate_callee (f := 41) rfl ?_); refine goesL_ (some 15) rfl rfl Try.func41 (by kernel_rfl) rfl #[.int .i64 a0] rfl (by (try simp only [List.map_toArray, List.map_cons, List.map_nil]); first | done | rfl | (simp only [List.length_drop, List.length_take]; rfl)) ?_; (with_reducible refine (memory_kind.calls k a0 t119 t120 _ A4.out).mono ?_); rintro e w' ⟨rfl, ⟨nd, rfl⟩⟩; refine ⟨_, rfl, ?_⟩))
      go_ret3
      exact ⟨by first | rfl | (simp; done) | (simp [*]; done), by repeat (first | exact Drawn0.refl _ | apply Drawn0.step)⟩
    · rw [if_neg c5] at H
      have c5b0 : (t119 == 3) = false := beq_eq_false_iff_ne.mpr c5
      have c5b1 : (t119 != 3) = true := bne_iff_ne.mpr c5
      replace H := Option.bind_eq_some_iff.mp H
      obtain ⟨t121, A60, H⟩ := H
      replace H : (memory_Decoded.l0 k t121 t119 0 0 1) = some (r1, r2, r3) := H
      have A6 := Aside0.mk A60
      clear A60
      have H' := Aside0.mk H
      clear H
      go_enter Try.func13, Try.ntmps13
      go_wp2_with (first | ((with_reducible refine gate_callee (f := 34) rfl ?_); refine goesL_ (some 11) rfl rfl Try.func34 (by kernel_rfl) rfl #[.int .i64 a0, .int .i64 0, .int .i64 4194303] rfl (by (try simp only [List.map_toArray, List.map_cons, List.map_nil]); first | done | rfl | (simp only [List.length_drop, List.length_take]; rfl)) ?_; (with_reducible refine (kit_In.calls a0 0 4194303 true _ A2.out).mono ?_); rintro e w' ⟨rfl, ⟨nd, rfl⟩⟩; refine ⟨_, rfl, ?_⟩) | ((with_reducible refine gate_callee (f := 41) rfl ?_); refine goesL_ (some 15) rfl rfl Try.func41 (by kernel_rfl) rfl #[.int .i64 a0] rfl (by (try simp only [List.map_toArray, List.map_cons, List.map_nil]); first | done | rfl | (simp only [List.length_drop, List.length_take]; rfl)) ?_; (with_reducible refine (memory_kind.calls k a0 t119 t120 _ A4.out).mono ?_); rintro e w' ⟨rfl, ⟨nd, rfl⟩⟩; refine ⟨_, rfl, ?_⟩) | ((with_reducible refine gate_callee (f := 42) rfl ?_); refine goesL_ (some 21) rfl rfl Try.func42 (by kernel_rfl) rfl #[.int .i64 a0] rfl (by (try simp only [List.map_toArray, List.map_cons, List.map_nil]); first | done | rfl | (simp only [List.length_drop, List.length_take]; rfl)) ?_; (with_reducible refine (memory_repaired.calls k a0 t121 _ A6.out).mono ?_); rintro e w' ⟨rfl, ⟨nd, rfl⟩⟩; refine ⟨_, rfl, ?_⟩))
      go_loopg [7, 8, 9] k (fun kq v7 v8 v9 w' => ∃ (x7_1 : Int) (x8_1 : Int) (x9_1 : Int), v7 = .int .i64 x7_1 ∧ v8 = .int .i64 x8_1 ∧ v9 = .int .i64 x9_1 ∧ Aside0 (memory_Decoded.l0 kq t121 t119 x7_1 x8_1 x9_1 = some (r1, r2, r3)) ∧ Aside0 (kq ≤ k) ∧ Drawn0 w w')
      case atStart => exact ⟨(0), (0), (1), (by first | rfl | (simp; done) | (simp [*]; done)), (by first | rfl | (simp; done) | (simp [*]; done)), (by first | rfl | (simp; done) | (simp [*]; done)), H', ⟨Nat.le_refl _⟩, by repeat (first | exact Drawn0.refl _ | apply Drawn0.step)⟩
      case round =>
        clear H'
        try clear c1
        try clear p2
        try clear c3
        try clear c4
        try clear c5
        try clear c5b0
        try clear c5b1
        obtain ⟨x7_1, x8_1, x9_1, rfl, rfl, rfl, HA, HK1, ⟨m1, rfl⟩⟩ := hrel
        cases gk with
        | zero => exact absurd HA.out (by simp [memory_Decoded.l0])
        | succ k1 =>
          have H := HA.out
          clear HA
          simp only [memory_Decoded.l0] at H
          by_cases c7 : x9_1 < 22
          · rw [if_pos c7] at H
            have c7b0 : decide (x9_1 < 22) = true := decide_eq_true c7
            clear c7
            replace H := Option.bind_eq_some_iff.mp H
            obtain ⟨t122, A80, H⟩ := H
            replace H : (if t122 = true then (memory_Decoded.l0 k1 t121 t119 x7_1 x8_1 (wrap64 (x9_1 + 1))) else ((memory_bit.f x9_1).bind fun t123 => (if (Go.bits .and .i64 t121 t123) = 0 then (memory_Decoded.l0 k1 t121 t119 x7_1 (wrap64 (x8_1 + 1)) (wrap64 (x9_1 + 1))) else (if 0 ≤ x8_1 then (memory_Decoded.l0 k1 t121 t119 (Go.bits .or .i64 x7_1 (shl .i64 1 x8_1)) (wrap64 (x8_1 + 1)) (wrap64 (x9_1 + 1))) else (none))))) = some (r1, r2, r3) := H
            have A8 := Aside0.mk A80
            clear A80
            by_cases c9 : t122 = true
            · subst c9
              have H1 : (memory_Decoded.l0 k1 t121 t119 x7_1 x8_1 (wrap64 (x9_1 + 1))) = some (r1, r2, r3) := by rw [if_pos rfl] at H; exact H
              clear H
              have H := H1
              clear H1
              have H' := Aside0.mk H
              clear H
              go_wp2_with (first | ((with_reducible refine gate_callee (f := 35) rfl ?_); refine goesL_ (some 27) rfl rfl Try.func35 (by kernel_rfl) rfl #[.int .i64 x9_1] rfl (by (try simp only [List.map_toArray, List.map_cons, List.map_nil]); first | done | rfl | (simp only [List.length_drop, List.length_take]; rfl)) ?_; (with_reducible refine (memory_check.calls x9_1 true _ A8.out).mono ?_); rintro e w' ⟨rfl, ⟨nd, rfl⟩⟩; refine ⟨_, rfl, ?_⟩))
              go_roundg k1
              case measure => have := HK1.out; omega
              case rel => exact ⟨(x7_1), (x8_1), (wrap64 (x9_1 + 1)), (by first | rfl | (simp; done) | (simp [*]; done)), (by first | rfl | (simp; done) | (simp [*]; done)), (by first | rfl | (simp; done) | (simp [*]; done)), H', ⟨by have := HK1.out; omega⟩, by repeat (first | exact Drawn0.refl _ | apply Drawn0.step)⟩
            · replace c9 := Bool.eq_false_iff.mpr c9
              subst c9
              have H1 : ((memory_bit.f x9_1).bind fun t123 => (if (Go.bits .and .i64 t121 t123) = 0 then (memory_Decoded.l0 k1 t121 t119 x7_1 (wrap64 (x8_1 + 1)) (wrap64 (x9_1 + 1))) else (if 0 ≤ x8_1 then (memory_Decoded.l0 k1 t121 t119 (Go.bits .or .i64 x7_1 (shl .i64 1 x8_1)) (wrap64 (x8_1 + 1)) (wrap64 (x9_1 + 1))) else (none)))) = some (r1, r2, r3) := by rw [if_neg (show ¬ (false = true) by decide)] at H; exact H
              clear H
              have H := H1
              clear H1
              replace H := Option.bind_eq_some_iff.mp H
              obtain ⟨t123, A100, H⟩ := H
              replace H : (if (Go.bits .and .i64 t121 t123) = 0 then (memory_Decoded.l0 k1 t121 t119 x7_1 (wrap64 (x8_1 + 1)) (wrap64 (x9_1 + 1))) else (if 0 ≤ x8_1 then (memory_Decoded.l0 k1 t121 t119 (Go.bits .or .i64 x7_1 (shl .i64 1 x8_1)) (wrap64 (x8_1 + 1)) (wrap64 (x9_1 + 1))) else (none))) = some (r1, r2, r3) := H
              have A10 := Aside0.mk A100
              clear A100
              by_cases c11 : (Go.bits .and .i64 t121 t123) = 0
              · rw [if_pos c11] at H
                have c11b0 : ((Go.bits .and .i64 t121 t123) == 0) = true := beq_iff_eq.mpr c11
                have c11b1 : ((Go.bits .and .i64 t121 t123) != 0) = false := bne_eq_false_iff_eq.mpr c11
                clear c11
                have H' := Aside0.mk H
                clear H
                go_wp2_with (first | ((with_reducible refine gate_callee (f := 35) rfl ?_); refine goesL_ (some 27) rfl rfl Try.func35 (by kernel_rfl) rfl #[.int .i64 x9_1] rfl (by (try simp only [List.map_toArray, List.map_cons, List.map_nil]); first | done | rfl | (simp only [List.length_drop, List.length_take]; rfl)) ?_; (with_reducible refine (memory_check.calls x9_1 false _ A8.out).mono ?_); rintro e w' ⟨rfl, ⟨nd, rfl⟩⟩; refine ⟨_, rfl, ?_⟩) | ((with_reducible refine gate_callee (f := 36) rfl ?_); refine goesL_ (some 31) rfl rfl Try.func36 (by kernel_rfl) rfl #[.int .i64 x9_1] rfl (by (try simp only [List.map_toArray, List.map_cons, List.map_nil]); first | done | rfl | (simp only [List.length_drop, List.length_take]; rfl)) ?_; (with_reducible refine (memory_bit.calls x9_1 t123 _ A10.out).mono ?_); rintro e w' ⟨rfl, ⟨nd, rfl⟩⟩; refine ⟨_, rfl, ?_⟩))
                go_roundg k1
                case measure => have := HK1.out; omega
                case rel => exact ⟨(x7_1), (wrap64 (x8_1 + 1)), (wrap64 (x9_1 + 1)), (by first | rfl | (simp; done) | (simp [*]; done)), (by first | rfl | (simp; done) | (simp [*]; done)), (by first | rfl | (simp; done) | (simp [*]; done)), H', ⟨by have := HK1.out; omega⟩, by repeat (first | exact Drawn0.refl _ | apply Drawn0.step)⟩
              · rw [if_neg c11] at H
                have c11b0 : ((Go.bits .and .i64 t121 t123) == 0) = false := beq_eq_false_iff_ne.mpr c11
                have c11b1 : ((Go.bits .and .i64 t121 t123) != 0) = true := bne_iff_ne.mpr c11
                by_cases c12 : 0 ≤ x8_1
                · rw [if_pos c12] at H
                  have c12b0 := eq_true c12
                  have c12b1 : decide (0 ≤ x8_1) = true := decide_eq_true c12
                  clear c12
                  obtain ⟨ji13, hji13⟩ : ∃ j_ : Int, (shl .i64 1 x8_1) = j_ := ⟨_, rfl⟩
                  replace H : (memory_Decoded.l0 k1 t121 t119 (Go.bits .or .i64 x7_1 (ji13)) (wrap64 (x8_1 + 1)) (wrap64 (x9_1 + 1))) = some (r1, r2, r3) := by first | (rw [hji13] at H; exact H) | (simp only [hji13] at H ⊢; exact H)
                  (try rw [hji13] at A8)
                  (try rw [hji13] at A10)
                  have hji13_ : (IntKind.i64.wrap (1 * 2 ^ min x8_1.toNat 64)) = ji13 := hji13
                  have hji13z : x8_1 ≤ 64 → (IntKind.i64.wrap (1 * 2 ^ x8_1.toNat)) = ji13 := shl_small hji13
                  have hji13u : (IntKind.i64.wrap (2 ^ min x8_1.toNat 64)) = ji13 := by have h_ := hji13_; rw [Int.one_mul] at h_; exact h_
                  have hji13v : x8_1 ≤ 64 → (IntKind.i64.wrap (2 ^ x8_1.toNat)) = ji13 := fun hle_ => by have h_ := hji13z hle_; rw [Int.one_mul] at h_; exact h_
                  have hji13y : (wrap64 (1 * 2 ^ min x8_1.toNat 64)) = ji13 := (i64_w _).symm.trans hji13_
                  have hji13x : x8_1 ≤ 64 → (wrap64 (1 * 2 ^ x8_1.toNat)) = ji13 := fun h_ => (i64_w _).symm.trans (hji13z h_)
                  have H' := Aside0.mk H
                  clear H
                  go_wp2_with (first | ((with_reducible refine gate_callee (f := 35) rfl ?_); refine goesL_ (some 27) rfl rfl Try.func35 (by kernel_rfl) rfl #[.int .i64 x9_1] rfl (by (try simp only [List.map_toArray, List.map_cons, List.map_nil]); first | done | rfl | (simp only [List.length_drop, List.length_take]; rfl)) ?_; (with_reducible refine (memory_check.calls x9_1 false _ A8.out).mono ?_); rintro e w' ⟨rfl, ⟨nd, rfl⟩⟩; refine ⟨_, rfl, ?_⟩) | ((with_reducible refine gate_callee (f := 36) rfl ?_); refine goesL_ (some 31) rfl rfl Try.func36 (by kernel_rfl) rfl #[.int .i64 x9_1] rfl (by (try simp only [List.map_toArray, List.map_cons, List.map_nil]); first | done | rfl | (simp only [List.length_drop, List.length_take]; rfl)) ?_; (with_reducible refine (memory_bit.calls x9_1 t123 _ A10.out).mono ?_); rintro e w' ⟨rfl, ⟨nd, rfl⟩⟩; refine ⟨_, rfl, ?_⟩))
                  go_roundg k1
                  case measure => have := HK1.out; omega
                  case rel => exact ⟨(Go.bits .or .i64 x7_1 (ji13)), (wrap64 (x8_1 + 1)), (wrap64 (x9_1 + 1)), (by first | rfl | (simp; done) | (simp only [← hji13] <;> (first | rfl | simp)) | (simp [*]; done)), (by first | rfl | (simp; done) | (simp [*]; done)), (by first | rfl | (simp; done) | (simp [*]; done)), H', ⟨by have := HK1.out; omega⟩, by repeat (first | exact Drawn0.refl _ | apply Drawn0.step)⟩
                · rw [if_neg c12] at H
                  exact absurd H (by simp)
          · rw [if_neg c7] at H
            have c7b0 : decide (x9_1 < 22) = false := decide_eq_false c7
            clear c7
            simp only [Option.some.injEq, Prod.mk.injEq] at H
            obtain ⟨rfl, rfl, rfl⟩ := H
            go_wp2
            go_ret3
            exact ⟨by first | rfl | (simp; done) | (simp [*]; done), by repeat (first | exact Drawn0.refl _ | apply Drawn0.step)⟩
  · replace c3 := Bool.eq_false_iff.mpr c3
    subst c3
    have H1 : (some (0, 0, 1)) = some (r1, r2, r3) := by rw [if_neg (show ¬ (false = true) by decide)] at H; exact H
    clear H
    have H := H1
    clear H1
    simp only [Option.some.injEq, Prod.mk.injEq] at H
    obtain ⟨rfl, rfl, rfl⟩ := H
    go_enter Try.func13, Try.ntmps13
    go_wp2_with (first | ((with_reducible refine gate_callee (f := 34) rfl ?_); refine goesL_ (some 11) rfl rfl Try.func34 (by kernel_rfl) rfl #[.int .i64 a0, .int .i64 0, .int .i64 4194303] rfl (by (try simp only [List.map_toArray, List.map_cons, List.map_nil]); first | done | rfl | (simp only [List.length_drop, List.length_take]; rfl)) ?_; (with_reducible refine (kit_In.calls a0 0 4194303 false _ A2.out).mono ?_); rintro e w' ⟨rfl, ⟨nd, rfl⟩⟩; refine ⟨_, rfl, ?_⟩))
    go_ret3
    exact ⟨by first | rfl | (simp; done) | (simp [*]; done), by repeat (first | exact Drawn0.refl _ | apply Drawn0.step)⟩

/-! ### memory_Kind: function 15 -/
def memory_Kind.f (k : Nat) (a0 : Int) : Option (Int × Int × Int) := (kit_In.f a0 0 4194303).bind fun t124 => (if t124 = true then ((memory_kind.f k a0).bind fun bt125 => (some (bt125.1, bt125.2, 0))) else (some (0, 0, 1)))
theorem memory_Kind.mono : ∀ a0 k, LeO (memory_Kind.f k a0) (memory_Kind.f (k + 1) a0) := by
  intro a0 k
  unfold memory_Kind.f
  repeat' first
      | (with_reducible exact memory_kind.mono _ _)
      | (with_reducible exact LeO.refl _)
      | (with_reducible exact LeO.none _)
      | (with_reducible refine LeO.ite ?_ ?_)
      | (with_reducible refine LeO.bind ?_ (fun _ => ?_))
      | exact memory_kind.mono _ _
      | exact LeO.none _
      | refine LeO.ite ?_ ?_
      | refine LeO.bind ?_ (fun _ => ?_)
set_option maxHeartbeats 8000000 in
set_option maxRecDepth 100000 in
theorem memory_Kind.calls (k : Nat) (a0 : Int) (r1 : Int) (r2 : Int) (r3 : Int) (w : World) (h : memory_Kind.f k a0 = some (r1, r2, r3)) :
    Calls Try.prog 15 #[.int .i64 a0] w fun e w' => e = .returned (.tuple #[.int .i64 r1, .int .i64 r2, .int .i64 r3]) ∧ Drawn0 w w' := by
  have H : ((kit_In.f a0 0 4194303).bind fun t124 => (if t124 = true then ((memory_kind.f k a0).bind fun bt125 => (some (bt125.1, bt125.2, 0))) else (some (0, 0, 1)))) = some (r1, r2, r3) := h
  clear h
  replace H := Option.bind_eq_some_iff.mp H
  obtain ⟨t124, A20, H⟩ := H
  replace H : (if t124 = true then ((memory_kind.f k a0).bind fun bt125 => (some (bt125.1, bt125.2, 0))) else (some (0, 0, 1))) = some (r1, r2, r3) := H
  have A2 := Aside0.mk A20
  clear A20
  by_cases c3 : t124 = true
  · subst c3
    have H1 : ((memory_kind.f k a0).bind fun bt125 => (some (bt125.1, bt125.2, 0))) = some (r1, r2, r3) := by rw [if_pos rfl] at H; exact H
    clear H
    have H := H1
    clear H1
    replace H := Option.bind_eq_some_iff.mp H
    obtain ⟨⟨t125, t126⟩, A40, H⟩ := H
    replace H : (some (t125, t126, 0)) = some (r1, r2, r3) := H
    have A4 := Aside0.mk A40
    clear A40
    simp only [Option.some.injEq, Prod.mk.injEq] at H
    obtain ⟨rfl, rfl, rfl⟩ := H
    go_enter Try.func15, Try.ntmps15
    go_wp2_with (first | ((with_reducible refine gate_callee (f := 34) rfl ?_); refine goesL_ (some 8) rfl rfl Try.func34 (by kernel_rfl) rfl #[.int .i64 a0, .int .i64 0, .int .i64 4194303] rfl (by (try simp only [List.map_toArray, List.map_cons, List.map_nil]); first | done | rfl | (simp only [List.length_drop, List.length_take]; rfl)) ?_; (with_reducible refine (kit_In.calls a0 0 4194303 true _ A2.out).mono ?_); rintro e w' ⟨rfl, ⟨nd, rfl⟩⟩; refine ⟨_, rfl, ?_⟩) | ((with_reducible refine gate_callee (f := 41) rfl ?_); refine goesL_ (some 12) rfl rfl Try.func41 (by kernel_rfl) rfl #[.int .i64 a0] rfl (by (try simp only [List.map_toArray, List.map_cons, List.map_nil]); first | done | rfl | (simp only [List.length_drop, List.length_take]; rfl)) ?_; (with_reducible refine (memory_kind.calls k a0 t125 t126 _ A4.out).mono ?_); rintro e w' ⟨rfl, ⟨nd, rfl⟩⟩; refine ⟨_, rfl, ?_⟩))
    go_ret3
    exact ⟨by first | rfl | (simp; done) | (simp [*]; done), by repeat (first | exact Drawn0.refl _ | apply Drawn0.step)⟩
  · replace c3 := Bool.eq_false_iff.mpr c3
    subst c3
    have H1 : (some (0, 0, 1)) = some (r1, r2, r3) := by rw [if_neg (show ¬ (false = true) by decide)] at H; exact H
    clear H
    have H := H1
    clear H1
    simp only [Option.some.injEq, Prod.mk.injEq] at H
    obtain ⟨rfl, rfl, rfl⟩ := H
    go_enter Try.func15, Try.ntmps15
    go_wp2_with (first | ((with_reducible refine gate_callee (f := 34) rfl ?_); refine goesL_ (some 8) rfl rfl Try.func34 (by kernel_rfl) rfl #[.int .i64 a0, .int .i64 0, .int .i64 4194303] rfl (by (try simp only [List.map_toArray, List.map_cons, List.map_nil]); first | done | rfl | (simp only [List.length_drop, List.length_take]; rfl)) ?_; (with_reducible refine (kit_In.calls a0 0 4194303 false _ A2.out).mono ?_); rintro e w' ⟨rfl, ⟨nd, rfl⟩⟩; refine ⟨_, rfl, ?_⟩))
    go_ret3
    exact ⟨by first | rfl | (simp; done) | (simp [*]; done), by repeat (first | exact Drawn0.refl _ | apply Drawn0.step)⟩

/-! ### perigeelaw3_awake: function 17 -/
def perigeelaw3_awake.f (k : Nat)  : Option (Bool) := (memory_Coded.f k 1).bind fun bt127 => (if bt127.2 = 0 then (some (bt127.1 == 2097159)) else (some false))
theorem perigeelaw3_awake.mono : ∀ k, LeO (perigeelaw3_awake.f k ) (perigeelaw3_awake.f (k + 1) ) := by
  intro  k
  unfold perigeelaw3_awake.f
  repeat' first
      | (with_reducible exact memory_Coded.mono _ _)
      | (with_reducible exact LeO.refl _)
      | (with_reducible exact LeO.none _)
      | (with_reducible refine LeO.ite ?_ ?_)
      | (with_reducible refine LeO.bind ?_ (fun _ => ?_))
      | exact memory_Coded.mono _ _
      | exact LeO.none _
      | refine LeO.ite ?_ ?_
      | refine LeO.bind ?_ (fun _ => ?_)
set_option maxHeartbeats 8000000 in
set_option maxRecDepth 100000 in
theorem perigeelaw3_awake.calls (k : Nat)  (r : Bool) (w : World) (h : perigeelaw3_awake.f k  = some r) :
    Calls Try.prog 17 #[] w fun e w' => e = .returned (.bool r) ∧ Drawn0 w w' := by
  have H : ((memory_Coded.f k 1).bind fun bt127 => (if bt127.2 = 0 then (some (bt127.1 == 2097159)) else (some false))) = some r := h
  clear h
  replace H := Option.bind_eq_some_iff.mp H
  obtain ⟨⟨t127, t128⟩, A10, H⟩ := H
  replace H : (if t128 = 0 then (some (t127 == 2097159)) else (some false)) = some r := H
  have A1 := Aside0.mk A10
  clear A10
  by_cases c2 : t128 = 0
  · rw [if_pos c2] at H
    have c2b0 : (t128 == 0) = true := beq_iff_eq.mpr c2
    have c2b1 : (t128 != 0) = false := bne_eq_false_iff_eq.mpr c2
    clear c2
    obtain rfl := Option.some.inj H
    go_enter Try.func17, Try.ntmps17
    go_wp2_with (first | ((with_reducible refine gate_callee (f := 11) rfl ?_); refine goesL_ (some 4) rfl rfl Try.func11 (by kernel_rfl) rfl #[.int .i64 1] rfl (by (try simp only [List.map_toArray, List.map_cons, List.map_nil]); first | done | rfl | (simp only [List.length_drop, List.length_take]; rfl)) ?_; (with_reducible refine (memory_Coded.calls k 1 t127 t128 _ A1.out).mono ?_); rintro e w' ⟨rfl, ⟨nd, rfl⟩⟩; refine ⟨_, rfl, ?_⟩))
    go_ret
    exact ⟨by first | rfl | (simp; done) | (simp [*]; done), by repeat (first | exact Drawn0.refl _ | apply Drawn0.step)⟩
  · rw [if_neg c2] at H
    have c2b0 : (t128 == 0) = false := beq_eq_false_iff_ne.mpr c2
    have c2b1 : (t128 != 0) = true := bne_iff_ne.mpr c2
    obtain rfl := Option.some.inj H
    go_enter Try.func17, Try.ntmps17
    go_wp2_with (first | ((with_reducible refine gate_callee (f := 11) rfl ?_); refine goesL_ (some 4) rfl rfl Try.func11 (by kernel_rfl) rfl #[.int .i64 1] rfl (by (try simp only [List.map_toArray, List.map_cons, List.map_nil]); first | done | rfl | (simp only [List.length_drop, List.length_take]; rfl)) ?_; (with_reducible refine (memory_Coded.calls k 1 t127 t128 _ A1.out).mono ?_); rintro e w' ⟨rfl, ⟨nd, rfl⟩⟩; refine ⟨_, rfl, ?_⟩))
    go_ret
    exact ⟨by first | rfl | (simp; done) | (simp [*]; done), by repeat (first | exact Drawn0.refl _ | apply Drawn0.step)⟩

/-! ### perigeeref3_Below: function 18 -/
def perigeeref3_Below.f (a0 : Int) (a1 : Int) : Option (Int) := if a1 = 0 then (none) else (if (Int.tmod a0 a1) < 0 then (some (wrap64 ((Int.tmod a0 a1) + a1))) else (some (Int.tmod a0 a1)))
set_option maxHeartbeats 8000000 in
set_option maxRecDepth 100000 in
theorem perigeeref3_Below.calls (a0 : Int) (a1 : Int) (r : Int) (w : World) (h : perigeeref3_Below.f a0 a1 = some r) :
    Calls Try.prog 18 #[.int .i64 a0, .int .i64 a1] w fun e w' => e = .returned (.int .i64 r) ∧ Drawn0 w w' := by
  have H : (if a1 = 0 then (none) else (if (Int.tmod a0 a1) < 0 then (some (wrap64 ((Int.tmod a0 a1) + a1))) else (some (Int.tmod a0 a1)))) = some r := h
  clear h
  by_cases c3 : a1 = 0
  · rw [if_pos c3] at H
    exact absurd H (by simp)
  · rw [if_neg c3] at H
    have c3b0 : (a1 == 0) = false := beq_eq_false_iff_ne.mpr c3
    have c3b1 : (a1 != 0) = true := bne_iff_ne.mpr c3
    by_cases c4 : (Int.tmod a0 a1) < 0
    · rw [if_pos c4] at H
      have c4b0 : decide ((Int.tmod a0 a1) < 0) = true := decide_eq_true c4
      clear c4
      obtain rfl := Option.some.inj H
      go_enter Try.func18, Try.ntmps18
      go_wp2
      go_ret
      exact ⟨by first | rfl | (simp; done) | (simp [*]; done), by repeat (first | exact Drawn0.refl _ | apply Drawn0.step)⟩
    · rw [if_neg c4] at H
      have c4b0 : decide ((Int.tmod a0 a1) < 0) = false := decide_eq_false c4
      clear c4
      obtain rfl := Option.some.inj H
      go_enter Try.func18, Try.ntmps18
      go_wp2
      go_ret
      exact ⟨by first | rfl | (simp; done) | (simp [*]; done), by repeat (first | exact Drawn0.refl _ | apply Drawn0.step)⟩

/-! ### perigeelaw3_MemoryOneFlipIsPutRight: function 4 -/
def perigeelaw3_MemoryOneFlipIsPutRight.j0 : Nat → Int → Int → Int → Bool → Option (Bool)
  | 0, _, _, _, _ => none
  | k + 1, x1, x2, x9, x73 => if x73 = true then (some false) else (if x1 = x2 then ((perigeelaw3_awake.f k).bind fun t140 => (some t140)) else (if 0 ≤ (wrap64 (x2 - 1)) then ((memory_Kind.f k (Go.bits .xor .i64 x9 (shl .i64 1 (wrap64 (x2 - 1))))).bind fun bt141 => (if bt141.2.2 = 0 then (if bt141.1 = 3 then (if bt141.2.1 = 0 then ((perigeelaw3_awake.f k).bind fun t144 => (some t144)) else (some false)) else (some false)) else (some false))) else (none)))
def perigeelaw3_MemoryOneFlipIsPutRight.f (k : Nat) (a0 : Int) (a1 : Int) (a2 : Int) : Option (Bool) := (memory_Coded.f k a0).bind fun bt129 => (if bt129.2 = 0 then ((perigeeref3_Below.f a1 22).bind fun t132 => ((perigeeref3_Below.f a2 22).bind fun t133 => (if 0 ≤ (wrap64 ((wrap64 (1 + t132)) - 1)) then ((memory_Decoded.f k (Go.bits .xor .i64 bt129.1 (shl .i64 1 (wrap64 ((wrap64 (1 + t132)) - 1))))).bind fun bt134 => ((memory_Kind.f k (Go.bits .xor .i64 bt129.1 (shl .i64 1 (wrap64 ((wrap64 (1 + t132)) - 1))))).bind fun bt137 => (if bt134.2.2 = 0 then (if bt137.2.2 = 0 then (if bt134.1 = a0 then (if bt134.2.1 = 1 then (if bt137.1 = 2 then (perigeelaw3_MemoryOneFlipIsPutRight.j0 k (wrap64 (1 + t132)) (wrap64 (1 + t133)) (Go.bits .xor .i64 bt129.1 (shl .i64 1 (wrap64 ((wrap64 (1 + t132)) - 1)))) (bt137.2.1 != (wrap64 (1 + t132)))) else (perigeelaw3_MemoryOneFlipIsPutRight.j0 k (wrap64 (1 + t132)) (wrap64 (1 + t133)) (Go.bits .xor .i64 bt129.1 (shl .i64 1 (wrap64 ((wrap64 (1 + t132)) - 1)))) true)) else (perigeelaw3_MemoryOneFlipIsPutRight.j0 k (wrap64 (1 + t132)) (wrap64 (1 + t133)) (Go.bits .xor .i64 bt129.1 (shl .i64 1 (wrap64 ((wrap64 (1 + t132)) - 1)))) true)) else (perigeelaw3_MemoryOneFlipIsPutRight.j0 k (wrap64 (1 + t132)) (wrap64 (1 + t133)) (Go.bits .xor .i64 bt129.1 (shl .i64 1 (wrap64 ((wrap64 (1 + t132)) - 1)))) true)) else (perigeelaw3_MemoryOneFlipIsPutRight.j0 k (wrap64 (1 + t132)) (wrap64 (1 + t133)) (Go.bits .xor .i64 bt129.1 (shl .i64 1 (wrap64 ((wrap64 (1 + t132)) - 1)))) true)) else (perigeelaw3_MemoryOneFlipIsPutRight.j0 k (wrap64 (1 + t132)) (wrap64 (1 + t133)) (Go.bits .xor .i64 bt129.1 (shl .i64 1 (wrap64 ((wrap64 (1 + t132)) - 1)))) true)))) else (none)))) else (if bt129.1 = 0 then ((perigeelaw3_awake.f k).bind fun t131 => (some t131)) else (some false)))
theorem perigeelaw3_MemoryOneFlipIsPutRight.mono_l : ∀ k, (∀ y0 y1 y2 y3, LeO (perigeelaw3_MemoryOneFlipIsPutRight.j0 k y0 y1 y2 y3) (perigeelaw3_MemoryOneFlipIsPutRight.j0 (k + 1) y0 y1 y2 y3))
  | 0 => fun _ _ _ _ r h => by simp [perigeelaw3_MemoryOneFlipIsPutRight.j0] at h
  | k + 1 => by
    have ih0 := perigeelaw3_MemoryOneFlipIsPutRight.mono_l k
    · intro y0 y1 y2 y3
      unfold perigeelaw3_MemoryOneFlipIsPutRight.j0
      repeat' first
      | (with_reducible exact ih0 _ _ _ _)
      | (with_reducible exact memory_Coded.mono _ _)
      | (with_reducible exact memory_Decoded.mono _ _)
      | (with_reducible exact memory_Kind.mono _ _)
      | (with_reducible exact perigeelaw3_awake.mono _)
      | (with_reducible exact LeO.refl _)
      | (with_reducible exact LeO.none _)
      | (with_reducible refine LeO.ite ?_ ?_)
      | (with_reducible refine LeO.bind ?_ (fun _ => ?_))
      | exact ih0 _ _ _ _
      | exact memory_Coded.mono _ _
      | exact memory_Decoded.mono _ _
      | exact memory_Kind.mono _ _
      | exact perigeelaw3_awake.mono _
      | exact LeO.none _
      | refine LeO.ite ?_ ?_
      | refine LeO.bind ?_ (fun _ => ?_)
theorem perigeelaw3_MemoryOneFlipIsPutRight.mono : ∀ a0 a1 a2 k, LeO (perigeelaw3_MemoryOneFlipIsPutRight.f k a0 a1 a2) (perigeelaw3_MemoryOneFlipIsPutRight.f (k + 1) a0 a1 a2) := by
  intro a0 a1 a2 k
  have ih0 := perigeelaw3_MemoryOneFlipIsPutRight.mono_l k
  unfold perigeelaw3_MemoryOneFlipIsPutRight.f
  repeat' first
      | (with_reducible exact ih0 _ _ _ _)
      | (with_reducible exact memory_Coded.mono _ _)
      | (with_reducible exact memory_Decoded.mono _ _)
      | (with_reducible exact memory_Kind.mono _ _)
      | (with_reducible exact perigeelaw3_awake.mono _)
      | (with_reducible exact LeO.refl _)
      | (with_reducible exact LeO.none _)
      | (with_reducible refine LeO.ite ?_ ?_)
      | (with_reducible refine LeO.bind ?_ (fun _ => ?_))
      | exact ih0 _ _ _ _
      | exact memory_Coded.mono _ _
      | exact memory_Decoded.mono _ _
      | exact memory_Kind.mono _ _
      | exact perigeelaw3_awake.mono _
      | exact LeO.none _
      | refine LeO.ite ?_ ?_
      | refine LeO.bind ?_ (fun _ => ?_)
set_option maxHeartbeats 8000000 in
set_option maxRecDepth 100000 in
theorem perigeelaw3_MemoryOneFlipIsPutRight.calls (k : Nat) (a0 : Int) (a1 : Int) (a2 : Int) (r : Bool) (w : World) (h : perigeelaw3_MemoryOneFlipIsPutRight.f k a0 a1 a2 = some r) :
    Calls Try.prog 4 #[.int .i64 a0, .int .i64 a1, .int .i64 a2] w fun e w' => e = .returned (.bool r) ∧ Drawn0 w w' := by
  have H : ((memory_Coded.f k a0).bind fun bt129 => (if bt129.2 = 0 then ((perigeeref3_Below.f a1 22).bind fun t132 => ((perigeeref3_Below.f a2 22).bind fun t133 => (if 0 ≤ (wrap64 ((wrap64 (1 + t132)) - 1)) then ((memory_Decoded.f k (Go.bits .xor .i64 bt129.1 (shl .i64 1 (wrap64 ((wrap64 (1 + t132)) - 1))))).bind fun bt134 => ((memory_Kind.f k (Go.bits .xor .i64 bt129.1 (shl .i64 1 (wrap64 ((wrap64 (1 + t132)) - 1))))).bind fun bt137 => (if bt134.2.2 = 0 then (if bt137.2.2 = 0 then (if bt134.1 = a0 then (if bt134.2.1 = 1 then (if bt137.1 = 2 then (perigeelaw3_MemoryOneFlipIsPutRight.j0 k (wrap64 (1 + t132)) (wrap64 (1 + t133)) (Go.bits .xor .i64 bt129.1 (shl .i64 1 (wrap64 ((wrap64 (1 + t132)) - 1)))) (bt137.2.1 != (wrap64 (1 + t132)))) else (perigeelaw3_MemoryOneFlipIsPutRight.j0 k (wrap64 (1 + t132)) (wrap64 (1 + t133)) (Go.bits .xor .i64 bt129.1 (shl .i64 1 (wrap64 ((wrap64 (1 + t132)) - 1)))) true)) else (perigeelaw3_MemoryOneFlipIsPutRight.j0 k (wrap64 (1 + t132)) (wrap64 (1 + t133)) (Go.bits .xor .i64 bt129.1 (shl .i64 1 (wrap64 ((wrap64 (1 + t132)) - 1)))) true)) else (perigeelaw3_MemoryOneFlipIsPutRight.j0 k (wrap64 (1 + t132)) (wrap64 (1 + t133)) (Go.bits .xor .i64 bt129.1 (shl .i64 1 (wrap64 ((wrap64 (1 + t132)) - 1)))) true)) else (perigeelaw3_MemoryOneFlipIsPutRight.j0 k (wrap64 (1 + t132)) (wrap64 (1 + t133)) (Go.bits .xor .i64 bt129.1 (shl .i64 1 (wrap64 ((wrap64 (1 + t132)) - 1)))) true)) else (perigeelaw3_MemoryOneFlipIsPutRight.j0 k (wrap64 (1 + t132)) (wrap64 (1 + t133)) (Go.bits .xor .i64 bt129.1 (shl .i64 1 (wrap64 ((wrap64 (1 + t132)) - 1)))) true)))) else (none)))) else (if bt129.1 = 0 then ((perigeelaw3_awake.f k).bind fun t131 => (some t131)) else (some false)))) = some r := h
  clear h
  replace H := Option.bind_eq_some_iff.mp H
  obtain ⟨⟨t129, t130⟩, A40, H⟩ := H
  replace H : (if t130 = 0 then ((perigeeref3_Below.f a1 22).bind fun t132 => ((perigeeref3_Below.f a2 22).bind fun t133 => (if 0 ≤ (wrap64 ((wrap64 (1 + t132)) - 1)) then ((memory_Decoded.f k (Go.bits .xor .i64 t129 (shl .i64 1 (wrap64 ((wrap64 (1 + t132)) - 1))))).bind fun bt134 => ((memory_Kind.f k (Go.bits .xor .i64 t129 (shl .i64 1 (wrap64 ((wrap64 (1 + t132)) - 1))))).bind fun bt137 => (if bt134.2.2 = 0 then (if bt137.2.2 = 0 then (if bt134.1 = a0 then (if bt134.2.1 = 1 then (if bt137.1 = 2 then (perigeelaw3_MemoryOneFlipIsPutRight.j0 k (wrap64 (1 + t132)) (wrap64 (1 + t133)) (Go.bits .xor .i64 t129 (shl .i64 1 (wrap64 ((wrap64 (1 + t132)) - 1)))) (bt137.2.1 != (wrap64 (1 + t132)))) else (perigeelaw3_MemoryOneFlipIsPutRight.j0 k (wrap64 (1 + t132)) (wrap64 (1 + t133)) (Go.bits .xor .i64 t129 (shl .i64 1 (wrap64 ((wrap64 (1 + t132)) - 1)))) true)) else (perigeelaw3_MemoryOneFlipIsPutRight.j0 k (wrap64 (1 + t132)) (wrap64 (1 + t133)) (Go.bits .xor .i64 t129 (shl .i64 1 (wrap64 ((wrap64 (1 + t132)) - 1)))) true)) else (perigeelaw3_MemoryOneFlipIsPutRight.j0 k (wrap64 (1 + t132)) (wrap64 (1 + t133)) (Go.bits .xor .i64 t129 (shl .i64 1 (wrap64 ((wrap64 (1 + t132)) - 1)))) true)) else (perigeelaw3_MemoryOneFlipIsPutRight.j0 k (wrap64 (1 + t132)) (wrap64 (1 + t133)) (Go.bits .xor .i64 t129 (shl .i64 1 (wrap64 ((wrap64 (1 + t132)) - 1)))) true)) else (perigeelaw3_MemoryOneFlipIsPutRight.j0 k (wrap64 (1 + t132)) (wrap64 (1 + t133)) (Go.bits .xor .i64 t129 (shl .i64 1 (wrap64 ((wrap64 (1 + t132)) - 1)))) true)))) else (none)))) else (if t129 = 0 then ((perigeelaw3_awake.f k).bind fun t131 => (some t131)) else (some false))) = some r := H
  have A4 := Aside0.mk A40
  clear A40
  by_cases c5 : t130 = 0
  · rw [if_pos c5] at H
    have c5b0 : (t130 == 0) = true := beq_iff_eq.mpr c5
    have c5b1 : (t130 != 0) = false := bne_eq_false_iff_eq.mpr c5
    clear c5
    replace H := Option.bind_eq_some_iff.mp H
    obtain ⟨t132, A60, H⟩ := H
    replace H : ((perigeeref3_Below.f a2 22).bind fun t133 => (if 0 ≤ (wrap64 ((wrap64 (1 + t132)) - 1)) then ((memory_Decoded.f k (Go.bits .xor .i64 t129 (shl .i64 1 (wrap64 ((wrap64 (1 + t132)) - 1))))).bind fun bt134 => ((memory_Kind.f k (Go.bits .xor .i64 t129 (shl .i64 1 (wrap64 ((wrap64 (1 + t132)) - 1))))).bind fun bt137 => (if bt134.2.2 = 0 then (if bt137.2.2 = 0 then (if bt134.1 = a0 then (if bt134.2.1 = 1 then (if bt137.1 = 2 then (perigeelaw3_MemoryOneFlipIsPutRight.j0 k (wrap64 (1 + t132)) (wrap64 (1 + t133)) (Go.bits .xor .i64 t129 (shl .i64 1 (wrap64 ((wrap64 (1 + t132)) - 1)))) (bt137.2.1 != (wrap64 (1 + t132)))) else (perigeelaw3_MemoryOneFlipIsPutRight.j0 k (wrap64 (1 + t132)) (wrap64 (1 + t133)) (Go.bits .xor .i64 t129 (shl .i64 1 (wrap64 ((wrap64 (1 + t132)) - 1)))) true)) else (perigeelaw3_MemoryOneFlipIsPutRight.j0 k (wrap64 (1 + t132)) (wrap64 (1 + t133)) (Go.bits .xor .i64 t129 (shl .i64 1 (wrap64 ((wrap64 (1 + t132)) - 1)))) true)) else (perigeelaw3_MemoryOneFlipIsPutRight.j0 k (wrap64 (1 + t132)) (wrap64 (1 + t133)) (Go.bits .xor .i64 t129 (shl .i64 1 (wrap64 ((wrap64 (1 + t132)) - 1)))) true)) else (perigeelaw3_MemoryOneFlipIsPutRight.j0 k (wrap64 (1 + t132)) (wrap64 (1 + t133)) (Go.bits .xor .i64 t129 (shl .i64 1 (wrap64 ((wrap64 (1 + t132)) - 1)))) true)) else (perigeelaw3_MemoryOneFlipIsPutRight.j0 k (wrap64 (1 + t132)) (wrap64 (1 + t133)) (Go.bits .xor .i64 t129 (shl .i64 1 (wrap64 ((wrap64 (1 + t132)) - 1)))) true)))) else (none))) = some r := H
    have A6 := Aside0.mk A60
    clear A60
    replace H := Option.bind_eq_some_iff.mp H
    obtain ⟨t133, A70, H⟩ := H
    replace H : (if 0 ≤ (wrap64 ((wrap64 (1 + t132)) - 1)) then ((memory_Decoded.f k (Go.bits .xor .i64 t129 (shl .i64 1 (wrap64 ((wrap64 (1 + t132)) - 1))))).bind fun bt134 => ((memory_Kind.f k (Go.bits .xor .i64 t129 (shl .i64 1 (wrap64 ((wrap64 (1 + t132)) - 1))))).bind fun bt137 => (if bt134.2.2 = 0 then (if bt137.2.2 = 0 then (if bt134.1 = a0 then (if bt134.2.1 = 1 then (if bt137.1 = 2 then (perigeelaw3_MemoryOneFlipIsPutRight.j0 k (wrap64 (1 + t132)) (wrap64 (1 + t133)) (Go.bits .xor .i64 t129 (shl .i64 1 (wrap64 ((wrap64 (1 + t132)) - 1)))) (bt137.2.1 != (wrap64 (1 + t132)))) else (perigeelaw3_MemoryOneFlipIsPutRight.j0 k (wrap64 (1 + t132)) (wrap64 (1 + t133)) (Go.bits .xor .i64 t129 (shl .i64 1 (wrap64 ((wrap64 (1 + t132)) - 1)))) true)) else (perigeelaw3_MemoryOneFlipIsPutRight.j0 k (wrap64 (1 + t132)) (wrap64 (1 + t133)) (Go.bits .xor .i64 t129 (shl .i64 1 (wrap64 ((wrap64 (1 + t132)) - 1)))) true)) else (perigeelaw3_MemoryOneFlipIsPutRight.j0 k (wrap64 (1 + t132)) (wrap64 (1 + t133)) (Go.bits .xor .i64 t129 (shl .i64 1 (wrap64 ((wrap64 (1 + t132)) - 1)))) true)) else (perigeelaw3_MemoryOneFlipIsPutRight.j0 k (wrap64 (1 + t132)) (wrap64 (1 + t133)) (Go.bits .xor .i64 t129 (shl .i64 1 (wrap64 ((wrap64 (1 + t132)) - 1)))) true)) else (perigeelaw3_MemoryOneFlipIsPutRight.j0 k (wrap64 (1 + t132)) (wrap64 (1 + t133)) (Go.bits .xor .i64 t129 (shl .i64 1 (wrap64 ((wrap64 (1 + t132)) - 1)))) true)))) else (none)) = some r := H
    have A7 := Aside0.mk A70
    clear A70
    obtain ⟨ji8, hji8⟩ : ∃ j_ : Int, (wrap64 ((wrap64 (1 + t132)) - 1)) = j_ := ⟨_, rfl⟩
    replace H : (if 0 ≤ (ji8) then ((memory_Decoded.f k (Go.bits .xor .i64 t129 (shl .i64 1 (ji8)))).bind fun bt134 => ((memory_Kind.f k (Go.bits .xor .i64 t129 (shl .i64 1 (ji8)))).bind fun bt137 => (if bt134.2.2 = 0 then (if bt137.2.2 = 0 then (if bt134.1 = a0 then (if bt134.2.1 = 1 then (if bt137.1 = 2 then (perigeelaw3_MemoryOneFlipIsPutRight.j0 k (wrap64 (1 + t132)) (wrap64 (1 + t133)) (Go.bits .xor .i64 t129 (shl .i64 1 (ji8))) (bt137.2.1 != (wrap64 (1 + t132)))) else (perigeelaw3_MemoryOneFlipIsPutRight.j0 k (wrap64 (1 + t132)) (wrap64 (1 + t133)) (Go.bits .xor .i64 t129 (shl .i64 1 (ji8))) true)) else (perigeelaw3_MemoryOneFlipIsPutRight.j0 k (wrap64 (1 + t132)) (wrap64 (1 + t133)) (Go.bits .xor .i64 t129 (shl .i64 1 (ji8))) true)) else (perigeelaw3_MemoryOneFlipIsPutRight.j0 k (wrap64 (1 + t132)) (wrap64 (1 + t133)) (Go.bits .xor .i64 t129 (shl .i64 1 (ji8))) true)) else (perigeelaw3_MemoryOneFlipIsPutRight.j0 k (wrap64 (1 + t132)) (wrap64 (1 + t133)) (Go.bits .xor .i64 t129 (shl .i64 1 (ji8))) true)) else (perigeelaw3_MemoryOneFlipIsPutRight.j0 k (wrap64 (1 + t132)) (wrap64 (1 + t133)) (Go.bits .xor .i64 t129 (shl .i64 1 (ji8))) true)))) else (none)) = some r := by first | (rw [hji8] at H; exact H) | (simp only [hji8] at H ⊢; exact H)
    (try rw [hji8] at A4)
    (try rw [hji8] at A6)
    (try rw [hji8] at A7)
    have hji8w : (IntKind.i64.wrap ((wrap64 (1 + t132)) - 1)) = ji8 := (i64_w _).trans hji8
    by_cases c9 : 0 ≤ (ji8)
    · rw [if_pos c9] at H
      have c9b0 := eq_true c9
      have c9b1 : decide (0 ≤ (ji8)) = true := decide_eq_true c9
      clear c9
      obtain ⟨ji10, hji10⟩ : ∃ j_ : Int, (shl .i64 1 (ji8)) = j_ := ⟨_, rfl⟩
      replace H : ((memory_Decoded.f k (Go.bits .xor .i64 t129 (ji10))).bind fun bt134 => ((memory_Kind.f k (Go.bits .xor .i64 t129 (ji10))).bind fun bt137 => (if bt134.2.2 = 0 then (if bt137.2.2 = 0 then (if bt134.1 = a0 then (if bt134.2.1 = 1 then (if bt137.1 = 2 then (perigeelaw3_MemoryOneFlipIsPutRight.j0 k (wrap64 (1 + t132)) (wrap64 (1 + t133)) (Go.bits .xor .i64 t129 (ji10)) (bt137.2.1 != (wrap64 (1 + t132)))) else (perigeelaw3_MemoryOneFlipIsPutRight.j0 k (wrap64 (1 + t132)) (wrap64 (1 + t133)) (Go.bits .xor .i64 t129 (ji10)) true)) else (perigeelaw3_MemoryOneFlipIsPutRight.j0 k (wrap64 (1 + t132)) (wrap64 (1 + t133)) (Go.bits .xor .i64 t129 (ji10)) true)) else (perigeelaw3_MemoryOneFlipIsPutRight.j0 k (wrap64 (1 + t132)) (wrap64 (1 + t133)) (Go.bits .xor .i64 t129 (ji10)) true)) else (perigeelaw3_MemoryOneFlipIsPutRight.j0 k (wrap64 (1 + t132)) (wrap64 (1 + t133)) (Go.bits .xor .i64 t129 (ji10)) true)) else (perigeelaw3_MemoryOneFlipIsPutRight.j0 k (wrap64 (1 + t132)) (wrap64 (1 + t133)) (Go.bits .xor .i64 t129 (ji10)) true)))) = some r := by first | (rw [hji10] at H; exact H) | (simp only [hji10] at H ⊢; exact H)
      (try rw [hji10] at A4)
      (try rw [hji10] at A6)
      (try rw [hji10] at A7)
      have hji10_ : (IntKind.i64.wrap (1 * 2 ^ min (ji8).toNat 64)) = ji10 := hji10
      have hji10z : (ji8) ≤ 64 → (IntKind.i64.wrap (1 * 2 ^ (ji8).toNat)) = ji10 := shl_small hji10
      have hji10u : (IntKind.i64.wrap (2 ^ min (ji8).toNat 64)) = ji10 := by have h_ := hji10_; rw [Int.one_mul] at h_; exact h_
      have hji10v : (ji8) ≤ 64 → (IntKind.i64.wrap (2 ^ (ji8).toNat)) = ji10 := fun hle_ => by have h_ := hji10z hle_; rw [Int.one_mul] at h_; exact h_
      have hji10y : (wrap64 (1 * 2 ^ min (ji8).toNat 64)) = ji10 := (i64_w _).symm.trans hji10_
      have hji10x : (ji8) ≤ 64 → (wrap64 (1 * 2 ^ (ji8).toNat)) = ji10 := fun h_ => (i64_w _).symm.trans (hji10z h_)
      replace H := Option.bind_eq_some_iff.mp H
      obtain ⟨⟨t134, t135, t136⟩, A110, H⟩ := H
      replace H : ((memory_Kind.f k (Go.bits .xor .i64 t129 (ji10))).bind fun bt137 => (if t136 = 0 then (if bt137.2.2 = 0 then (if t134 = a0 then (if t135 = 1 then (if bt137.1 = 2 then (perigeelaw3_MemoryOneFlipIsPutRight.j0 k (wrap64 (1 + t132)) (wrap64 (1 + t133)) (Go.bits .xor .i64 t129 (ji10)) (bt137.2.1 != (wrap64 (1 + t132)))) else (perigeelaw3_MemoryOneFlipIsPutRight.j0 k (wrap64 (1 + t132)) (wrap64 (1 + t133)) (Go.bits .xor .i64 t129 (ji10)) true)) else (perigeelaw3_MemoryOneFlipIsPutRight.j0 k (wrap64 (1 + t132)) (wrap64 (1 + t133)) (Go.bits .xor .i64 t129 (ji10)) true)) else (perigeelaw3_MemoryOneFlipIsPutRight.j0 k (wrap64 (1 + t132)) (wrap64 (1 + t133)) (Go.bits .xor .i64 t129 (ji10)) true)) else (perigeelaw3_MemoryOneFlipIsPutRight.j0 k (wrap64 (1 + t132)) (wrap64 (1 + t133)) (Go.bits .xor .i64 t129 (ji10)) true)) else (perigeelaw3_MemoryOneFlipIsPutRight.j0 k (wrap64 (1 + t132)) (wrap64 (1 + t133)) (Go.bits .xor .i64 t129 (ji10)) true))) = some r := H
      have A11 := Aside0.mk A110
      clear A110
      replace H := Option.bind_eq_some_iff.mp H
      obtain ⟨⟨t137, t138, t139⟩, A120, H⟩ := H
      replace H : (if t136 = 0 then (if t139 = 0 then (if t134 = a0 then (if t135 = 1 then (if t137 = 2 then (perigeelaw3_MemoryOneFlipIsPutRight.j0 k (wrap64 (1 + t132)) (wrap64 (1 + t133)) (Go.bits .xor .i64 t129 (ji10)) (t138 != (wrap64 (1 + t132)))) else (perigeelaw3_MemoryOneFlipIsPutRight.j0 k (wrap64 (1 + t132)) (wrap64 (1 + t133)) (Go.bits .xor .i64 t129 (ji10)) true)) else (perigeelaw3_MemoryOneFlipIsPutRight.j0 k (wrap64 (1 + t132)) (wrap64 (1 + t133)) (Go.bits .xor .i64 t129 (ji10)) true)) else (perigeelaw3_MemoryOneFlipIsPutRight.j0 k (wrap64 (1 + t132)) (wrap64 (1 + t133)) (Go.bits .xor .i64 t129 (ji10)) true)) else (perigeelaw3_MemoryOneFlipIsPutRight.j0 k (wrap64 (1 + t132)) (wrap64 (1 + t133)) (Go.bits .xor .i64 t129 (ji10)) true)) else (perigeelaw3_MemoryOneFlipIsPutRight.j0 k (wrap64 (1 + t132)) (wrap64 (1 + t133)) (Go.bits .xor .i64 t129 (ji10)) true)) = some r := H
      have A12 := Aside0.mk A120
      clear A120
      have HC13 := Aside0.mk H
      clear H
      go_enter Try.func4, Try.ntmps4
      go_upto_region 8 with (first | ((with_reducible refine gate_callee (f := 11) rfl ?_); refine goesL_ (some 17) rfl rfl Try.func11 (by kernel_rfl) rfl #[.int .i64 a0] rfl (by (try simp only [List.map_toArray, List.map_cons, List.map_nil]); first | done | rfl | (simp only [List.length_drop, List.length_take]; rfl)) ?_; (with_reducible refine (memory_Coded.calls k a0 t129 t130 _ A4.out).mono ?_); rintro e w' ⟨rfl, ⟨nd, rfl⟩⟩; refine ⟨_, rfl, ?_⟩) | ((with_reducible refine gate_callee (f := 18) rfl ?_); refine goesL_ (some 28) rfl rfl Try.func18 (by kernel_rfl) rfl #[.int .i64 a1, .int .i64 22] rfl (by (try simp only [List.map_toArray, List.map_cons, List.map_nil]); first | done | rfl | (simp only [List.length_drop, List.length_take]; rfl)) ?_; (with_reducible refine (perigeeref3_Below.calls a1 22 t132 _ A6.out).mono ?_); rintro e w' ⟨rfl, ⟨nd, rfl⟩⟩; refine ⟨_, rfl, ?_⟩) | ((with_reducible refine gate_callee (f := 18) rfl ?_); refine goesL_ (some 31) rfl rfl Try.func18 (by kernel_rfl) rfl #[.int .i64 a2, .int .i64 22] rfl (by (try simp only [List.map_toArray, List.map_cons, List.map_nil]); first | done | rfl | (simp only [List.length_drop, List.length_take]; rfl)) ?_; (with_reducible refine (perigeeref3_Below.calls a2 22 t133 _ A7.out).mono ?_); rintro e w' ⟨rfl, ⟨nd, rfl⟩⟩; refine ⟨_, rfl, ?_⟩) | ((with_reducible refine gate_callee (f := 13) rfl ?_); refine goesL_ (some 40) rfl rfl Try.func13 (by kernel_rfl) rfl #[.int .i64 (Go.bits .xor .i64 t129 (ji10))] rfl (by (try simp only [List.map_toArray, List.map_cons, List.map_nil]); first | done | (simp only [hji10]; rfl) | rfl | (simp only [List.length_drop, List.length_take]; rfl)) ?_; (with_reducible refine (memory_Decoded.calls k (Go.bits .xor .i64 t129 (ji10)) t134 t135 t136 _ A11.out).mono ?_); rintro e w' ⟨rfl, ⟨nd, rfl⟩⟩; refine ⟨_, rfl, ?_⟩) | ((with_reducible refine gate_callee (f := 15) rfl ?_); refine goesL_ (some 46) rfl rfl Try.func15 (by kernel_rfl) rfl #[.int .i64 (Go.bits .xor .i64 t129 (ji10))] rfl (by (try simp only [List.map_toArray, List.map_cons, List.map_nil]); first | done | (simp only [hji10]; rfl) | rfl | (simp only [List.length_drop, List.length_take]; rfl)) ?_; (with_reducible refine (memory_Kind.calls k (Go.bits .xor .i64 t129 (ji10)) t137 t138 t139 _ A12.out).mono ?_); rintro e w' ⟨rfl, ⟨nd, rfl⟩⟩; refine ⟨_, rfl, ?_⟩))
      (try simp only [Act.put, List.setIfInBounds_toArray, List.set_cons_zero, List.set_cons_succ])
      go_cut [73] (fun v73 wc => ∃ (kq : Nat) (x73_12 : Bool), v73 = .bool x73_12 ∧ Aside0 (perigeelaw3_MemoryOneFlipIsPutRight.j0 kq (wrap64 (1 + t132)) (wrap64 (1 + t133)) (Go.bits .xor .i64 t129 (ji10)) x73_12 = some r) ∧ Aside0 (kq ≤ k) ∧ Drawn0 w wc)
      case first =>
        have H := HC13.out
        clear HC13
        by_cases c14 : t136 = 0
        · rw [if_pos c14] at H
          have c14b0 : (t136 == 0) = true := beq_iff_eq.mpr c14
          have c14b1 : (t136 != 0) = false := bne_eq_false_iff_eq.mpr c14
          clear c14
          (first | rw [c14b0] | (simp only [i64_w, i32_w]; rw [c14b0]) | skip)
          by_cases c15 : t139 = 0
          · rw [if_pos c15] at H
            have c15b0 : (t139 == 0) = true := beq_iff_eq.mpr c15
            have c15b1 : (t139 != 0) = false := bne_eq_false_iff_eq.mpr c15
            clear c15
            by_cases c16 : t134 = a0
            · rw [if_pos c16] at H
              have c16b0 : (t134 == a0) = true := beq_iff_eq.mpr c16
              have c16b1 : (t134 != a0) = false := bne_eq_false_iff_eq.mpr c16
              clear c16
              by_cases c17 : t135 = 1
              · rw [if_pos c17] at H
                have c17b0 : (t135 == 1) = true := beq_iff_eq.mpr c17
                have c17b1 : (t135 != 1) = false := bne_eq_false_iff_eq.mpr c17
                clear c17
                by_cases c18 : t137 = 2
                · rw [if_pos c18] at H
                  have c18b0 : (t137 == 2) = true := beq_iff_eq.mpr c18
                  have c18b1 : (t137 != 2) = false := bne_eq_false_iff_eq.mpr c18
                  clear c18
                  have H' := Aside0.mk H
                  clear H
                  go_wp2
                  go_meet
                  case rel => exact ⟨_, ((t138 != (wrap64 (1 + t132)))), (by first | rfl | (simp; done) | (simp [*]; done)), H', ⟨by first | omega | exact Nat.le_refl _⟩, by repeat (first | exact Drawn0.refl _ | apply Drawn0.step)⟩
                · rw [if_neg c18] at H
                  have c18b0 : (t137 == 2) = false := beq_eq_false_iff_ne.mpr c18
                  have c18b1 : (t137 != 2) = true := bne_iff_ne.mpr c18
                  have H' := Aside0.mk H
                  clear H
                  go_wp2
                  go_meet
                  case rel => exact ⟨_, (true), (by first | rfl | (simp; done) | (simp [*]; done)), H', ⟨by first | omega | exact Nat.le_refl _⟩, by repeat (first | exact Drawn0.refl _ | apply Drawn0.step)⟩
              · rw [if_neg c17] at H
                have c17b0 : (t135 == 1) = false := beq_eq_false_iff_ne.mpr c17
                have c17b1 : (t135 != 1) = true := bne_iff_ne.mpr c17
                have H' := Aside0.mk H
                clear H
                go_wp2
                go_meet
                case rel => exact ⟨_, (true), (by first | rfl | (simp; done) | (simp [*]; done)), H', ⟨by first | omega | exact Nat.le_refl _⟩, by repeat (first | exact Drawn0.refl _ | apply Drawn0.step)⟩
            · rw [if_neg c16] at H
              have c16b0 : (t134 == a0) = false := beq_eq_false_iff_ne.mpr c16
              have c16b1 : (t134 != a0) = true := bne_iff_ne.mpr c16
              have H' := Aside0.mk H
              clear H
              go_wp2
              go_meet
              case rel => exact ⟨_, (true), (by first | rfl | (simp; done) | (simp [*]; done)), H', ⟨by first | omega | exact Nat.le_refl _⟩, by repeat (first | exact Drawn0.refl _ | apply Drawn0.step)⟩
          · rw [if_neg c15] at H
            have c15b0 : (t139 == 0) = false := beq_eq_false_iff_ne.mpr c15
            have c15b1 : (t139 != 0) = true := bne_iff_ne.mpr c15
            have H' := Aside0.mk H
            clear H
            go_wp2
            go_meet
            case rel => exact ⟨_, (true), (by first | rfl | (simp; done) | (simp [*]; done)), H', ⟨by first | omega | exact Nat.le_refl _⟩, by repeat (first | exact Drawn0.refl _ | apply Drawn0.step)⟩
        · rw [if_neg c14] at H
          have c14b0 : (t136 == 0) = false := beq_eq_false_iff_ne.mpr c14
          have c14b1 : (t136 != 0) = true := bne_iff_ne.mpr c14
          (first | rw [c14b0] | (simp only [i64_w, i32_w]; rw [c14b0]) | skip)
          have H' := Aside0.mk H
          clear H
          go_wp2
          go_meet
          case rel => exact ⟨_, (true), (by first | rfl | (simp; done) | (simp [*]; done)), H', ⟨by first | omega | exact Nat.le_refl _⟩, by repeat (first | exact Drawn0.refl _ | apply Drawn0.step)⟩
      case rest =>
        clear HC13
        try clear c1
        try clear p2
        try clear c4
        try clear c5
        try clear c5b0
        try clear c5b1
        try clear p6
        try clear c9
        try clear c9b0
        try clear c9b1
        try clear c11
        try clear c13
        try clear c14
        try clear c14b0
        try clear c14b1
        try clear c15
        try clear c15b0
        try clear c15b1
        try clear c16
        try clear c16b0
        try clear c16b1
        try clear c17
        try clear c17b0
        try clear c17b1
        try clear c18
        try clear c18b0
        try clear c18b1
        obtain ⟨kq, x73_12, rfl, HA, HJ12, ⟨mc12, rfl⟩⟩ := hcut
        cases kq with
        | zero => exact absurd HA.out (by simp [perigeelaw3_MemoryOneFlipIsPutRight.j0])
        | succ kj12 =>
          have H := HA.out
          clear HA
          simp only [perigeelaw3_MemoryOneFlipIsPutRight.j0] at H
          by_cases c19 : x73_12 = true
          · subst c19
            have H1 : (some false) = some r := by rw [if_pos rfl] at H; exact H
            clear H
            have H := H1
            clear H1
            obtain rfl := Option.some.inj H
            go_wp2
            go_ret
            exact ⟨by first | rfl | (simp; done) | (simp only [← hji8, ← hji10] <;> (first | rfl | simp)) | (simp [*]; done), by repeat (first | exact Drawn0.refl _ | apply Drawn0.step)⟩
          · replace c19 := Bool.eq_false_iff.mpr c19
            subst c19
            have H1 : (if (wrap64 (1 + t132)) = (wrap64 (1 + t133)) then ((perigeelaw3_awake.f kj12).bind fun t140 => (some t140)) else (if 0 ≤ (wrap64 ((wrap64 (1 + t133)) - 1)) then ((memory_Kind.f kj12 (Go.bits .xor .i64 (Go.bits .xor .i64 t129 (ji10)) (shl .i64 1 (wrap64 ((wrap64 (1 + t133)) - 1))))).bind fun bt141 => (if bt141.2.2 = 0 then (if bt141.1 = 3 then (if bt141.2.1 = 0 then ((perigeelaw3_awake.f kj12).bind fun t144 => (some t144)) else (some false)) else (some false)) else (some false))) else (none))) = some r := by rw [if_neg (show ¬ (false = true) by decide)] at H; exact H
            clear H
            have H := H1
            clear H1
            by_cases c20 : (wrap64 (1 + t132)) = (wrap64 (1 + t133))
            · rw [if_pos c20] at H
              have c20b0 : ((wrap64 (1 + t132)) == (wrap64 (1 + t133))) = true := beq_iff_eq.mpr c20
              have c20b1 : ((wrap64 (1 + t132)) != (wrap64 (1 + t133))) = false := bne_eq_false_iff_eq.mpr c20
              clear c20
              replace H := Option.bind_eq_some_iff.mp H
              obtain ⟨t140, A210, H⟩ := H
              replace H : (some t140) = some r := H
              have A21 := Aside0.mk A210
              clear A210
              obtain rfl := Option.some.inj H
              go_wp2_with (first | ((with_reducible refine gate_callee (f := 17) rfl ?_); refine goesL_ (some 77) rfl rfl Try.func17 (by kernel_rfl) rfl #[] rfl (by (try simp only [List.map_toArray, List.map_cons, List.map_nil]); first | done | rfl | (simp only [List.length_drop, List.length_take]; rfl)) ?_; (with_reducible refine (perigeelaw3_awake.calls kj12  t140 _ A21.out).mono ?_); rintro e w' ⟨rfl, ⟨nd, rfl⟩⟩; refine ⟨_, rfl, ?_⟩))
              go_ret
              exact ⟨by first | rfl | (simp; done) | (simp only [← hji8, ← hji10] <;> (first | rfl | simp)) | (simp [*]; done), by repeat (first | exact Drawn0.refl _ | apply Drawn0.step)⟩
            · rw [if_neg c20] at H
              have c20b0 : ((wrap64 (1 + t132)) == (wrap64 (1 + t133))) = false := beq_eq_false_iff_ne.mpr c20
              have c20b1 : ((wrap64 (1 + t132)) != (wrap64 (1 + t133))) = true := bne_iff_ne.mpr c20
              obtain ⟨ji22, hji22⟩ : ∃ j_ : Int, (wrap64 ((wrap64 (1 + t133)) - 1)) = j_ := ⟨_, rfl⟩
              replace H : (if 0 ≤ (ji22) then ((memory_Kind.f kj12 (Go.bits .xor .i64 (Go.bits .xor .i64 t129 (ji10)) (shl .i64 1 (ji22)))).bind fun bt141 => (if bt141.2.2 = 0 then (if bt141.1 = 3 then (if bt141.2.1 = 0 then ((perigeelaw3_awake.f kj12).bind fun t144 => (some t144)) else (some false)) else (some false)) else (some false))) else (none)) = some r := by first | (rw [hji22] at H; exact H) | (simp only [hji22] at H ⊢; exact H)
              have hji22w : (IntKind.i64.wrap ((wrap64 (1 + t133)) - 1)) = ji22 := (i64_w _).trans hji22
              by_cases c23 : 0 ≤ (ji22)
              · rw [if_pos c23] at H
                have c23b0 := eq_true c23
                have c23b1 : decide (0 ≤ (ji22)) = true := decide_eq_true c23
                clear c23
                obtain ⟨ji24, hji24⟩ : ∃ j_ : Int, (shl .i64 1 (ji22)) = j_ := ⟨_, rfl⟩
                replace H : ((memory_Kind.f kj12 (Go.bits .xor .i64 (Go.bits .xor .i64 t129 (ji10)) (ji24))).bind fun bt141 => (if bt141.2.2 = 0 then (if bt141.1 = 3 then (if bt141.2.1 = 0 then ((perigeelaw3_awake.f kj12).bind fun t144 => (some t144)) else (some false)) else (some false)) else (some false))) = some r := by first | (rw [hji24] at H; exact H) | (simp only [hji24] at H ⊢; exact H)
                have hji24_ : (IntKind.i64.wrap (1 * 2 ^ min (ji22).toNat 64)) = ji24 := hji24
                have hji24z : (ji22) ≤ 64 → (IntKind.i64.wrap (1 * 2 ^ (ji22).toNat)) = ji24 := shl_small hji24
                have hji24u : (IntKind.i64.wrap (2 ^ min (ji22).toNat 64)) = ji24 := by have h_ := hji24_; rw [Int.one_mul] at h_; exact h_
                have hji24v : (ji22) ≤ 64 → (IntKind.i64.wrap (2 ^ (ji22).toNat)) = ji24 := fun hle_ => by have h_ := hji24z hle_; rw [Int.one_mul] at h_; exact h_
                have hji24y : (wrap64 (1 * 2 ^ min (ji22).toNat 64)) = ji24 := (i64_w _).symm.trans hji24_
                have hji24x : (ji22) ≤ 64 → (wrap64 (1 * 2 ^ (ji22).toNat)) = ji24 := fun h_ => (i64_w _).symm.trans (hji24z h_)
                replace H := Option.bind_eq_some_iff.mp H
                obtain ⟨⟨t141, t142, t143⟩, A250, H⟩ := H
                replace H : (if t143 = 0 then (if t141 = 3 then (if t142 = 0 then ((perigeelaw3_awake.f kj12).bind fun t144 => (some t144)) else (some false)) else (some false)) else (some false)) = some r := H
                have A25 := Aside0.mk A250
                clear A250
                by_cases c26 : t143 = 0
                · rw [if_pos c26] at H
                  have c26b0 : (t143 == 0) = true := beq_iff_eq.mpr c26
                  have c26b1 : (t143 != 0) = false := bne_eq_false_iff_eq.mpr c26
                  clear c26
                  by_cases c27 : t141 = 3
                  · rw [if_pos c27] at H
                    have c27b0 : (t141 == 3) = true := beq_iff_eq.mpr c27
                    have c27b1 : (t141 != 3) = false := bne_eq_false_iff_eq.mpr c27
                    clear c27
                    by_cases c28 : t142 = 0
                    · rw [if_pos c28] at H
                      have c28b0 : (t142 == 0) = true := beq_iff_eq.mpr c28
                      have c28b1 : (t142 != 0) = false := bne_eq_false_iff_eq.mpr c28
                      clear c28
                      replace H := Option.bind_eq_some_iff.mp H
                      obtain ⟨t144, A290, H⟩ := H
                      replace H : (some t144) = some r := H
                      have A29 := Aside0.mk A290
                      clear A290
                      obtain rfl := Option.some.inj H
                      go_wp2_with (first | ((with_reducible refine gate_callee (f := 15) rfl ?_); refine goesL_ (some 84) rfl rfl Try.func15 (by kernel_rfl) rfl #[.int .i64 (Go.bits .xor .i64 (Go.bits .xor .i64 t129 (ji10)) (ji24))] rfl (by (try simp only [List.map_toArray, List.map_cons, List.map_nil]); first | done | (simp only [hji10, hji24]; rfl) | rfl | (simp only [List.length_drop, List.length_take]; rfl)) ?_; (with_reducible refine (memory_Kind.calls kj12 (Go.bits .xor .i64 (Go.bits .xor .i64 t129 (ji10)) (ji24)) t141 t142 t143 _ A25.out).mono ?_); rintro e w' ⟨rfl, ⟨nd, rfl⟩⟩; refine ⟨_, rfl, ?_⟩) | (go_at_call 17; (with_reducible refine (perigeelaw3_awake.calls kj12  t144 _ A29.out).mono ?_); rintro e w' ⟨rfl, ⟨nd, rfl⟩⟩))
                      go_ret
                      exact ⟨by first | rfl | (simp; done) | (simp only [← hji8, ← hji10, ← hji22, ← hji24] <;> (first | rfl | simp)) | (simp [*]; done), by repeat (first | exact Drawn0.refl _ | apply Drawn0.step)⟩
                    · rw [if_neg c28] at H
                      have c28b0 : (t142 == 0) = false := beq_eq_false_iff_ne.mpr c28
                      have c28b1 : (t142 != 0) = true := bne_iff_ne.mpr c28
                      obtain rfl := Option.some.inj H
                      go_wp2_with (first | ((with_reducible refine gate_callee (f := 15) rfl ?_); refine goesL_ (some 84) rfl rfl Try.func15 (by kernel_rfl) rfl #[.int .i64 (Go.bits .xor .i64 (Go.bits .xor .i64 t129 (ji10)) (ji24))] rfl (by (try simp only [List.map_toArray, List.map_cons, List.map_nil]); first | done | (simp only [hji10, hji24]; rfl) | rfl | (simp only [List.length_drop, List.length_take]; rfl)) ?_; (with_reducible refine (memory_Kind.calls kj12 (Go.bits .xor .i64 (Go.bits .xor .i64 t129 (ji10)) (ji24)) t141 t142 t143 _ A25.out).mono ?_); rintro e w' ⟨rfl, ⟨nd, rfl⟩⟩; refine ⟨_, rfl, ?_⟩))
                      go_ret
                      exact ⟨by first | rfl | (simp; done) | (simp only [← hji8, ← hji10, ← hji22, ← hji24] <;> (first | rfl | simp)) | (simp [*]; done), by repeat (first | exact Drawn0.refl _ | apply Drawn0.step)⟩
                  · rw [if_neg c27] at H
                    have c27b0 : (t141 == 3) = false := beq_eq_false_iff_ne.mpr c27
                    have c27b1 : (t141 != 3) = true := bne_iff_ne.mpr c27
                    obtain rfl := Option.some.inj H
                    go_wp2_with (first | ((with_reducible refine gate_callee (f := 15) rfl ?_); refine goesL_ (some 84) rfl rfl Try.func15 (by kernel_rfl) rfl #[.int .i64 (Go.bits .xor .i64 (Go.bits .xor .i64 t129 (ji10)) (ji24))] rfl (by (try simp only [List.map_toArray, List.map_cons, List.map_nil]); first | done | (simp only [hji10, hji24]; rfl) | rfl | (simp only [List.length_drop, List.length_take]; rfl)) ?_; (with_reducible refine (memory_Kind.calls kj12 (Go.bits .xor .i64 (Go.bits .xor .i64 t129 (ji10)) (ji24)) t141 t142 t143 _ A25.out).mono ?_); rintro e w' ⟨rfl, ⟨nd, rfl⟩⟩; refine ⟨_, rfl, ?_⟩))
                    go_ret
                    exact ⟨by first | rfl | (simp; done) | (simp only [← hji8, ← hji10, ← hji22, ← hji24] <;> (first | rfl | simp)) | (simp [*]; done), by repeat (first | exact Drawn0.refl _ | apply Drawn0.step)⟩
                · rw [if_neg c26] at H
                  have c26b0 : (t143 == 0) = false := beq_eq_false_iff_ne.mpr c26
                  have c26b1 : (t143 != 0) = true := bne_iff_ne.mpr c26
                  obtain rfl := Option.some.inj H
                  go_wp2_with (first | ((with_reducible refine gate_callee (f := 15) rfl ?_); refine goesL_ (some 84) rfl rfl Try.func15 (by kernel_rfl) rfl #[.int .i64 (Go.bits .xor .i64 (Go.bits .xor .i64 t129 (ji10)) (ji24))] rfl (by (try simp only [List.map_toArray, List.map_cons, List.map_nil]); first | done | (simp only [hji10, hji24]; rfl) | rfl | (simp only [List.length_drop, List.length_take]; rfl)) ?_; (with_reducible refine (memory_Kind.calls kj12 (Go.bits .xor .i64 (Go.bits .xor .i64 t129 (ji10)) (ji24)) t141 t142 t143 _ A25.out).mono ?_); rintro e w' ⟨rfl, ⟨nd, rfl⟩⟩; refine ⟨_, rfl, ?_⟩))
                  go_ret
                  exact ⟨by first | rfl | (simp; done) | (simp only [← hji8, ← hji10, ← hji22, ← hji24] <;> (first | rfl | simp)) | (simp [*]; done), by repeat (first | exact Drawn0.refl _ | apply Drawn0.step)⟩
              · rw [if_neg c23] at H
                exact absurd H (by simp)
    · rw [if_neg c9] at H
      exact absurd H (by simp)
  · rw [if_neg c5] at H
    have c5b0 : (t130 == 0) = false := beq_eq_false_iff_ne.mpr c5
    have c5b1 : (t130 != 0) = true := bne_iff_ne.mpr c5
    by_cases c30 : t129 = 0
    · rw [if_pos c30] at H
      have c30b0 : (t129 == 0) = true := beq_iff_eq.mpr c30
      have c30b1 : (t129 != 0) = false := bne_eq_false_iff_eq.mpr c30
      clear c30
      replace H := Option.bind_eq_some_iff.mp H
      obtain ⟨t131, A310, H⟩ := H
      replace H : (some t131) = some r := H
      have A31 := Aside0.mk A310
      clear A310
      obtain rfl := Option.some.inj H
      go_enter Try.func4, Try.ntmps4
      go_wp2_with (first | ((with_reducible refine gate_callee (f := 11) rfl ?_); refine goesL_ (some 17) rfl rfl Try.func11 (by kernel_rfl) rfl #[.int .i64 a0] rfl (by (try simp only [List.map_toArray, List.map_cons, List.map_nil]); first | done | rfl | (simp only [List.length_drop, List.length_take]; rfl)) ?_; (with_reducible refine (memory_Coded.calls k a0 t129 t130 _ A4.out).mono ?_); rintro e w' ⟨rfl, ⟨nd, rfl⟩⟩; refine ⟨_, rfl, ?_⟩) | (go_at_call 17; (with_reducible refine (perigeelaw3_awake.calls k  t131 _ A31.out).mono ?_); rintro e w' ⟨rfl, ⟨nd, rfl⟩⟩))
      go_ret
      exact ⟨by first | rfl | (simp; done) | (simp [*]; done), by repeat (first | exact Drawn0.refl _ | apply Drawn0.step)⟩
    · rw [if_neg c30] at H
      have c30b0 : (t129 == 0) = false := beq_eq_false_iff_ne.mpr c30
      have c30b1 : (t129 != 0) = true := bne_iff_ne.mpr c30
      obtain rfl := Option.some.inj H
      go_enter Try.func4, Try.ntmps4
      go_wp2_with (first | ((with_reducible refine gate_callee (f := 11) rfl ?_); refine goesL_ (some 17) rfl rfl Try.func11 (by kernel_rfl) rfl #[.int .i64 a0] rfl (by (try simp only [List.map_toArray, List.map_cons, List.map_nil]); first | done | rfl | (simp only [List.length_drop, List.length_take]; rfl)) ?_; (with_reducible refine (memory_Coded.calls k a0 t129 t130 _ A4.out).mono ?_); rintro e w' ⟨rfl, ⟨nd, rfl⟩⟩; refine ⟨_, rfl, ?_⟩))
      go_ret
      exact ⟨by first | rfl | (simp; done) | (simp [*]; done), by repeat (first | exact Drawn0.refl _ | apply Drawn0.step)⟩

/-- THE ONE PURE STATEMENT of perigeelaw3_MemoryOneFlipIsPutRight: yours. -/
def perigeelaw3_MemoryOneFlipIsPutRight.Pure : Prop := ∀ (a0 : Int) (a1 : Int) (a2 : Int), (Lit.int .i64 a0).wf = true → (Lit.int .i64 a1).wf = true → (Lit.int .i64 a2).wf = true → ∃ k, perigeelaw3_MemoryOneFlipIsPutRight.f k a0 a1 a2 = some true
theorem perigeelaw3_MemoryOneFlipIsPutRight.walk (P : perigeelaw3_MemoryOneFlipIsPutRight.Pure) (a0 : Int) (a1 : Int) (a2 : Int) (w : World) (w0 : (Lit.int .i64 a0).wf = true) (w1 : (Lit.int .i64 a1).wf = true) (w2 : (Lit.int .i64 a2).wf = true) :
    Calls Try.prog 4 #[.int .i64 a0, .int .i64 a1, .int .i64 a2] w fun e w' => e = .returned (.bool true) ∧ Below w.heap.size w w' := by
  obtain ⟨k, h⟩ := P a0 a1 a2 w0 w1 w2
  refine (perigeelaw3_MemoryOneFlipIsPutRight.calls k a0 a1 a2 true w h).mono ?_
  rintro e w' ⟨rfl, hd⟩
  exact ⟨rfl, hd.below⟩

end Go.Proofs.Ythlgdgmpmjfiiaa.QMemoryOneFlipIsPutRight
