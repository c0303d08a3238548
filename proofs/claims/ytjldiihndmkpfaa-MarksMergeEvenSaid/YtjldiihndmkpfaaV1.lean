/- slices.Grow of marks, from nil: walked in the model itself. -/
import Derived.WalkKit
import Derived.Lib.Walk
import Derived.Lib.SliceRun
import Derived.Lib.AppendZerosOnto
import Derived.Shelf.RegionOpenPlain
import Derived.Test.YtjldiihndmkpfaaM2
section
set_option linter.unusedVariables false
set_option linter.unusedSimpArgs false
namespace Go.Proofs.P3
open Go.Lib Go.RowKit Go.Ex
theorem markInfo : ∃ i0 z, Try.prog.info? 30 = some i0 ∧ i0.zero = some z ∧ i0.size = 3 ∧ i0.bytes = 24 ∧ z.cells.size = 3 := by
  obtain ⟨i0, hi0⟩ := Option.isSome_iff_exists.1 (by kernel_rfl : (Try.prog.info? 30).isSome = true)
  have h1 : (Try.prog.info? 30).map (·.size) = some 3 := by kernel_rfl
  have h2 : (Try.prog.info? 30).map (·.bytes) = some 24 := by kernel_rfl
  have h3 : (Try.prog.info? 30).map (·.zero.isSome) = some true := by kernel_rfl
  have h4 : (Try.prog.info? 30).map (fun i => i.zero.map fun z => z.cells.size) = some (some 3) := by kernel_rfl
  rw [hi0] at h1 h2 h3 h4
  simp only [Option.map_some, Option.some.injEq] at h1 h2 h3 h4
  obtain ⟨z, hz⟩ := Option.isSome_iff_exists.1 h3
  rw [hz] at h4
  simp only [Option.map_some, Option.some.injEq] at h4
  exact ⟨i0, z, hi0, hz, h1, h2, h4⟩
set_option maxHeartbeats 4000000 in
set_option maxRecDepth 100000 in
theorem grow_nil (i0 : TypeInfo) (z : Value) (hi0 : Try.prog.info? 30 = some i0) (hz0 : i0.zero = some z) (hs : i0.size = 3) (hb : i0.bytes = 24) (n : Nat) (hn : 0 < n) (hbig : n ≤ 20000) (w : World) :
    Calls Try.prog 123 #[.slice none 0 0, .int .i64 n] w fun e w' => e = .returned (.slice (some ⟨w.heap.size, 0, none⟩) 0 (grownCap w n 0 30)) ∧
      w' = w.drew.alloc (.cells (#[] ++ Builtin.zeroCells z.cells n ++ Builtin.zeroCells z.cells (grownCap w n 0 30 - n)) 30) := by
  have mixed := hm
  have t0 := Try.underlying0; have a0 := Try.isAgg0; have z0 := Try.sizeOf0; have v0 := Try.zeroValue0; have u0 := run_underlying Try.underlying0
  have t3 := Try.underlying3; have a3 := Try.isAgg3; have z3 := Try.sizeOf3; have v3 := Try.zeroValue3; have u3 := run_underlying Try.underlying3
  have t4 := Try.underlying4; have a4 := Try.isAgg4; have z4 := Try.sizeOf4; have v4 := Try.zeroValue4; have u4 := run_underlying Try.underlying4
  have t9 := Try.underlying9; have a9 := Try.isAgg9; have z9 := Try.sizeOf9; have v9 := Try.zeroValue9; have u9 := run_underlying Try.underlying9
  have t20 := Try.underlying20; have a20 := Try.isAgg20; have z20 := Try.sizeOf20; have v20 := Try.zeroValue20; have u20 := run_underlying Try.underlying20
  have t22 := Try.underlying28; have a22 := Try.isAgg28; have z22 := Try.sizeOf28; have v22 := Try.zeroValue28; have u22 := run_underlying Try.underlying28
  have nt : Try.f123.ntmps = 27 := rfl
  have h1 : ¬ ((n : Int) < 0) := by omega
  have h3 : wrap64 (n : Int) = (n : Int) := by unfold wrap64; omega
  have h4 : (n : Int) > 0 := by omega
  have z25 : ∀ w, (Go.sizeOf 30).run Try.prog w = .ok i0.size w := fun w => by simp [Go.sizeOf, typeInfo, hi0]
  have hold : (Builtin.firstCells i0.size 0 (.slice none 0 0)).run Try.prog w.drew = .ok #[] w.drew := run_firstCells_none w.drew i0.size 0 0 0
  have hrz : ∀ ty, (Builtin.append_ #[28, 3] ty #[.slice none 0 0, .int .i64 (n : Int)]).run Try.prog w =
      .ok (.slice (some ⟨w.heap.size, 0, none⟩) n (grownCap w n 0 30)) (w.drew.alloc (.cells (#[] ++ Builtin.zeroCells z.cells n ++ Builtin.zeroCells z.cells (grownCap w n 0 30 - n)) 30)) := fun ty => by
    have h := Lib.run_append_grow_zeros w 28 3 ty 30 i0 z .i64 .i64 t22 t3 hi0 hz0 none 0 0 [] hold n hn (by omega) (by omega) (by omega)
      (by rw [hb]; omega) (by rw [Nat.zero_add]; exact growslice_fits (by omega) (by rw [hb]; omega))
    simpa only [Nat.zero_add] using h
  have hGn : n ≤ grownCap w n 0 30 := grownCap_ge w _ _ _
  obtain ⟨G, hG⟩ : ∃ G, G = grownCap w n 0 30 := ⟨_, rfl⟩
  rw [← hG] at hrz hGn ⊢
  have hG63 : G ≤ 9223372036854775807 := by
    have := grownCap_le_maxLen w n 0 30 (by unfold maxLen; omega)
    rw [← hG] at this
    unfold maxLen at this
    omega
  clear hold hG
  go_enter Try.func123, nt
  go_wp2_with (at_builtin; refine Lib.wpList_append_run _ rfl _ _ _ _ rfl _ _ rfl rfl _ _ (hrz _) ?_)
  all_goals (go_ret; exact ⟨rfl, rfl⟩)
set_option maxRecDepth 100000 in
theorem grow_nil0 (w : World) : Calls Try.prog 123 #[.slice none 0 0, .int .i64 0] w fun e w' => e = .returned (.slice none 0 0) ∧ w' = w := by
  have mixed := hm
  have t0 := Try.underlying0; have a0 := Try.isAgg0; have z0 := Try.sizeOf0; have v0 := Try.zeroValue0; have u0 := run_underlying Try.underlying0
  have t3 := Try.underlying3; have a3 := Try.isAgg3; have z3 := Try.sizeOf3; have v3 := Try.zeroValue3; have u3 := run_underlying Try.underlying3
  have t4 := Try.underlying4; have a4 := Try.isAgg4; have z4 := Try.sizeOf4; have v4 := Try.zeroValue4; have u4 := run_underlying Try.underlying4
  have t9 := Try.underlying9; have a9 := Try.isAgg9; have z9 := Try.sizeOf9; have v9 := Try.zeroValue9; have u9 := run_underlying Try.underlying9
  have t20 := Try.underlying20; have a20 := Try.isAgg20; have z20 := Try.sizeOf20; have v20 := Try.zeroValue20; have u20 := run_underlying Try.underlying20
  have t22 := Try.underlying28; have a22 := Try.isAgg28; have z22 := Try.sizeOf28; have v22 := Try.zeroValue28; have u22 := run_underlying Try.underlying28
  have nt : Try.f123.ntmps = 27 := rfl
  go_enter Try.func123, nt
  go_wp2
  go_ret
  exact ⟨rfl, rfl⟩
theorem two_args {φ : Nat → Nat × Nat} {h : Hp} {S : Nat → Prop} {w : World} {vs : Array Value} {n : Int} (hv : Reps φ h S w [.ns, .int .i64 n] vs) : vs = #[.slice none 0 0, .int .i64 n] := by
  obtain ⟨h1, h2⟩ := hv
  obtain ⟨a, b, rfl⟩ : ∃ a b, vs = #[a, b] := by
    obtain ⟨l⟩ := vs
    match l, h1 with
    | [a, b], _ => exact ⟨a, b, rfl⟩
  have e1 := h2 0 _ a rfl rfl
  have e2 := h2 1 _ b rfl rfl
  cases e1
  cases e2
  rfl
theorem grow0_ok {h : Hp} {nx : Nat} : SOk Try.prog 123 [.ns, .int .i64 0] h nx .ns h nx := by
  intro w0 w φ S vs hf hR hv
  have := two_args hv
  subst this
  refine (grow_nil0 w).mono fun e w' he => ?_
  obtain ⟨rfl, rfl⟩ := he
  exact ⟨_, φ, S, rfl, hR, .refl, fun _ h _ => h, hf, .ns⟩
theorem grow_ok (n : Nat) (hn : 0 < n) (hb : n ≤ 20000) {h : Hp} {nx : Nat} : SOk Try.prog 123 [.ns, .int .i64 n] h nx (.sl nx 0 0 0 none) (upd h nx (some ⟨0, 3, [], none⟩)) (nx + 1) := by
  intro w0 w φ S vs hf hR hv
  have := two_args hv
  subst this
  obtain ⟨i0, z, hi, hz, hs, hby, hzc⟩ := markInfo
  refine (grow_nil i0 z hi hz hs hby n hn hb w).mono fun e w' he => ?_
  obtain ⟨rfl, rfl⟩ := he
  have hG := grownCap_ge w n 0 30
  generalize hA : (#[] ++ Builtin.zeroCells z.cells n ++ Builtin.zeroCells z.cells (grownCap w n 0 30 - n) : Array Value) = arr
  have hat := alloc_at (w := w.drew) (.cells arr 30)
  have hd : w.drew.heap.size = w.heap.size := rfl
  rw [hd] at hat
  obtain ⟨q1, q2⟩ := hR.new (w' := w.drew.alloc (.cells arr 30)) (below_drew_alloc _) (hf nx (Nat.le_refl _)) (Nat.le_refl _) hat (cells := []) (by simp) (.inl (Nat.le_refl _)) (fun i c v hc => by simp at hc) 3
  refine ⟨_, _, S, rfl, q1, q2, fun _ h _ => h, fun id hid => ?_, .sl _ _ _ _ _ _ _ ⟨_, by simp [upd]; rfl, Nat.le_refl _, fun _ => ⟨0, by simp [upd], fun _ => by simp [upd], ?_, by omega, fun _ h => by cases h⟩⟩⟩
  · simp only [upd]
    rw [if_neg (by omega)]
    exact hf id (by omega)
  · have hsz : arr.size = grownCap w n 0 30 * 3 := by
      rw [← hA]
      rw [Array.size_append, Array.size_append, size_zeroCells, size_zeroCells, hzc]
      simp only [Array.size_empty]
      omega
    have hz' : szOf (w.drew.alloc (.cells arr 30)) w.heap.size = arr.size := szOf_at hat
    simp only [upd, if_true]
    rw [hz', hsz]
    simp
end Go.Proofs.P3
end
