/- The law ClocksHaveRightTimes holds of the given program for every input: its row. -/
import Derived.Test.YtjldiihndmkpfaaRows
import Derived.Test.YtjldiihndmkpfaaP2d
import Derived.WalkKit
import Derived.ProofKit
import Derived.OpenShut
import Derived.ShutString
import Derived.ChangeOld
import Derived.Below
import Derived.SizedLaws
set_option linter.unusedVariables false
set_option linter.unusedSimpArgs false
namespace Go.Proofs.Ytjldiihndmkpfaa.clocksHaveRightTimes
open Go.ChangeShapes Go.WideShapes Go.ChangeAt Go.RowKit
open Go.ChangeMaps (open_string shut_string)
open Go.Ex Go.Proofs.P3
theorem own : ownKnob Try.prog.godebug = none := by kernel_rfl
theorem laidOut : laidOutB Try.prog = true := by kernel_rfl
set_option maxRecDepth 100000 in
theorem lifted (os : Os) (started : os.Started) (H : Type) (enc : TypeId × Value → H) :
    ReturnsInHanded {} Try.checked os 3 .any (Rows.clocksHaveRightTimesSpec.pre6 enc Try.prog Try.f3 Rows.clocksHaveRightTimesRow.domain false) (Rows.clocksHaveRightTimesSpec.post enc Try.prog Try.f3 false true false false) := by
  refine returnsInHanded_of_change_sized (C := Try.checked) own started (by kernel_rfl) Try.func3
    (ChangeSpec.witness6 (enc := enc) (C := Try.checked) false ⟨#[], #[.agg #[.int .i64 0, .int .i64 0], .int .i64 0, .int .i64 0, .slice none 0 0, .slice none 0 0, .int .i64 0], []⟩ 8 (by kernel_rfl) (by kernel_rfl) (by kernel_rfl) (by kernel_rfl)) ?_
  intro W base args ds gs before hval0 hW hcnd hsz0 _
  have hszg : (DataW.weightsEach Try.prog (Try.f3.params.toList ++ Rows.clocksHaveRightTimesSpec.plain.varTypes Try.prog) (ds ++ gs)).all (· ≤ reachBytes) = true := hsz0
  have hval : ∀ (j : Nat) t v, Try.f3.params[j]? = some t → args[j]? = some v → Value.okWide Try.prog W .any base t v := hval0
  have hW' := hW
  obtain ⟨p, q, hA0, hV, rfl, hfz, hnd⟩ := hW
  have hA : DataW.TrodAll enc Try.prog W 0 (fun _ => true) true Try.f3.params.toList args.toList ds p := hA0
  rw [Try.params3] at hA hval hszg
  obtain ⟨v0, vs0, d0, ds0, p0, q0, hargs, rfl, rfl, h0, r0⟩ := trodAll_cons hA
  obtain ⟨v1, vs1, d1, ds1, p1, q1, rfl, rfl, rfl, h1, r1⟩ := trodAll_cons r0
  obtain ⟨v2, vs2, d2, ds2, p2, q2, rfl, rfl, rfl, h2, r2⟩ := trodAll_cons r1
  obtain ⟨v3, vs3, d3, ds3, p3, q3, rfl, rfl, rfl, h3, r3⟩ := trodAll_cons r2
  obtain ⟨v4, vs4, d4, ds4, p4, q4, rfl, rfl, rfl, h4, r4⟩ := trodAll_cons r3
  obtain ⟨v5, vs5, d5, ds5, p5, q5, rfl, rfl, rfl, h5, r5⟩ := trodAll_cons r4
  obtain ⟨rfl, rfl, rfl⟩ := trodAll_nil r5
  obtain rfl : args = #[v0, v1, v2, v3, v4, v5] := by cases args; simp_all
  obtain ⟨rfl, rfl⟩ := trodVars_none hV
  have k0 := h0
  have lt0 : ∀ x ∈ p0, x.block < W.heap.size := by obtain ⟨m, hm⟩ := k0; exact DataW.trod_lt m _ _ _ hm
  have k1 := h1
  have lt1 : ∀ x ∈ p1, x.block < W.heap.size := by obtain ⟨m, hm⟩ := k1; exact DataW.trod_lt m _ _ _ hm
  have k2 := h2
  have lt2 : ∀ x ∈ p2, x.block < W.heap.size := by obtain ⟨m, hm⟩ := k2; exact DataW.trod_lt m _ _ _ hm
  have k3 := h3
  have lt3 : ∀ x ∈ p3, x.block < W.heap.size := by obtain ⟨m, hm⟩ := k3; exact DataW.trod_lt m _ _ _ hm
  have k4 := h4
  have lt4 : ∀ x ∈ p4, x.block < W.heap.size := by obtain ⟨m, hm⟩ := k4; exact DataW.trod_lt m _ _ _ hm
  have k5 := h5
  have lt5 : ∀ x ∈ p5, x.block < W.heap.size := by obtain ⟨m, hm⟩ := k5; exact DataW.trod_lt m _ _ _ hm
  have o3 : Opens Try.prog (Cd.int .i64) 3 _ := opens_int Try.underlying3
  have o23 : Opens Try.prog clockCd 23 _ := opens_fields Try.underlying23 (by kernel_rfl) (opensF_cons o3 rfl (by kernel_rfl) (opensF_one o3 rfl (by kernel_rfl)))
  have o24 : Opens Try.prog (Cd.slice (Cd.int .i64)) 24 _ := opens_slice 8 Try.underlying24 o3 (by kernel_rfl) (by kernel_rfl) (by decide)
  obtain ⟨x0, K0, ok0⟩ := param_open o23 hszg (j := 0) (t := 23) rfl rfl h0
  obtain ⟨x1, K1, ok1⟩ := param_open o3 hszg (j := 1) (t := 3) rfl rfl h1
  obtain ⟨x2, K2, ok2⟩ := param_open o3 hszg (j := 2) (t := 3) rfl rfl h2
  obtain ⟨x3, K3, ok3⟩ := param_open o24 hszg (j := 3) (t := 24) rfl rfl h3
  obtain ⟨x4, K4, ok4⟩ := param_open o24 hszg (j := 4) (t := 24) rfl rfl h4
  obtain ⟨x5, K5, ok5⟩ := param_open o3 hszg (j := 5) (t := 3) rfl rfl h5
  have c0 := hval 0 23 v0 rfl rfl
  have c1 : v1.oneCell' = true := by obtain ⟨_, e⟩ := okWide_int Try.underlying3 (hval 1 3 v1 rfl rfl); rw [e]; rfl
  have c2 : v2.oneCell' = true := by obtain ⟨_, e⟩ := okWide_int Try.underlying3 (hval 2 3 v2 rfl rfl); rw [e]; rfl
  have c3 : v3.oneCell' = true := by obtain ⟨_, _, _, e⟩ := okWide_slice Try.underlying24 (hval 3 24 v3 rfl rfl); rw [e]; rfl
  have c4 : v4.oneCell' = true := by obtain ⟨_, _, _, e⟩ := okWide_slice Try.underlying24 (hval 4 24 v4 rfl rfl); rw [e]; rfl
  have c5 : v5.oneCell' = true := by obtain ⟨_, e⟩ := okWide_int Try.underlying3 (hval 5 3 v5 rfl rfl); rw [e]; rfl
  clear hA0 hval0 hsz0
  have hok := ClocksHaveRightTimes x0 x1 x2 x3 x4 x5 (by have := ok3.1; omega) (by have := ok4.1; omega)
  refine (law_true hok (reps_of [(_, v0), (_, v1), (_, v2), (_, v3), (_, v4), (_, v5)] (fun p hp => ?_))).mono fun e W' ⟨he, bel0⟩ => ?_
  · simp only [List.mem_cons, List.not_mem_nil, or_false] at hp
    rcases hp with rfl | rfl | rfl | rfl | rfl | rfl
    · exact K0.agg Try.underlying23 c0 _
    · exact K1.one c1 _
    · exact K2.one c2 _
    · exact K3.one c3 _
    · exact K4.one c4 _
    · exact K5.one c5 _
  have bel : Below W.heap.size W W' := bel0
  subst he
  exact ⟨_, rfl, _, _, _, [], _, [], hW', trodAll_mk1 (shut_bool Try.underlying4 _), (trodAll_cons_mk (Below.trod laidOut (by kernel_rfl) (of_decide_eq_true (by kernel_rfl)) k0 bel lt0) (trodAll_cons_mk (Below.trod laidOut (by kernel_rfl) (of_decide_eq_true (by kernel_rfl)) k1 bel lt1) (trodAll_cons_mk (Below.trod laidOut (by kernel_rfl) (of_decide_eq_true (by kernel_rfl)) k2 bel lt2) (trodAll_cons_mk (Below.trod laidOut (by kernel_rfl) (of_decide_eq_true (by kernel_rfl)) k3 bel lt3) (trodAll_cons_mk (Below.trod laidOut (by kernel_rfl) (of_decide_eq_true (by kernel_rfl)) k4 bel lt4) (trodAll_cons_mk (Below.trod laidOut (by kernel_rfl) (of_decide_eq_true (by kernel_rfl)) k5 bel lt5) trodAll_mk0)))))), rfl, bel.frame _, fun h => by cases h⟩
set_option maxHeartbeats 4000000 in
theorem closed : joinedFacts Try.pinned.checked.prog 3 Try.f3 Rows.clocksHaveRightTimesSpec Rows.clocksHaveRightTimesRow = true := by
  unfold joinedFacts
  simp only [Bool.and_eq_true]
  repeat' apply And.intro
  all_goals as_aux_lemma => kernel_rfl
theorem over : Rows.clocksHaveRightTimesRow.holds Try.pinned (OpenSpec.ofChange Rows.clocksHaveRightTimesSpec) :=
  OpenClaim.holds_of_wide 3 Try.f3 rfl rfl rfl rfl rfl rfl rfl ⟨rfl, rfl, rfl, rfl, rfl⟩ rfl rfl rfl rfl rfl (by kernel_rfl) Try.func3 closed
    (of_decide_eq_true (by kernel_rfl)) (by unfold Func.isWrapper; first | (rw [if_pos (by decide +kernel)]; kernel_rfl) | (rw [if_neg (by decide +kernel)]; exact ⟨rfl, rfl⟩))
    (fun os started H enc _ => lifted os started H enc)
theorem proved : Rows.ClocksHaveRightTimesSaid := over
end Go.Proofs.Ytjldiihndmkpfaa.clocksHaveRightTimes
namespace Go.Proofs.Ytjldiihndmkpfaa
/-- The row, under a short name, for the claim. -/
theorem clocksHaveRightTimes_holds : Rows.ClocksHaveRightTimesSaid := clocksHaveRightTimes.proved
#print axioms clocksHaveRightTimes_holds
end Go.Proofs.Ytjldiihndmkpfaa
