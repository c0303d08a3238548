/- The law SchedulesInTime holds of the given program for every input: its row. -/
import Derived.Test.YtaegjihmpgdfcaaRows
import Derived.Test.YtaegjihmpgdfcaaB9
import Derived.WalkKit
import Derived.ProofKit
import Derived.OpenShut
import Derived.ShutString
import Derived.ChangeOld
import Derived.Below
import Derived.SizedLaws
set_option linter.unusedVariables false
set_option linter.unusedSimpArgs false
namespace Go.Proofs.Ytaegjihmpgdfcaa.schedulesInTime
open Go.ChangeShapes Go.WideShapes Go.ChangeAt Go.RowKit
open Go.ChangeMaps (open_string shut_string)
open Go.Ex Go.Proofs.P6
theorem own : ownKnob Try.prog.godebug = none := by kernel_rfl
theorem laidOut : laidOutB Try.prog = true := by kernel_rfl
set_option maxRecDepth 100000 in
theorem lifted (os : Os) (started : os.Started) (H : Type) (enc : TypeId × Value → H) :
    ReturnsInHanded {} Try.checked os 12 .any (Rows.schedulesInTimeSpec.pre6 enc Try.prog Try.f12 Rows.schedulesInTimeRow.domain false) (Rows.schedulesInTimeSpec.post enc Try.prog Try.f12 false true false false) := by
  refine returnsInHanded_of_change_sized (C := Try.checked) own started (by kernel_rfl) Try.func12
    (ChangeSpec.witness6 (enc := enc) (C := Try.checked) false ⟨#[], #[.slice none 0 0, .slice none 0 0, .int .i64 0, .int .i64 0], []⟩ 8 (by kernel_rfl) (by kernel_rfl) (by kernel_rfl) (by kernel_rfl)) ?_
  intro W base args ds gs before hval0 hW hcnd hsz0 _
  have hszg : (DataW.weightsEach Try.prog (Try.f12.params.toList ++ Rows.schedulesInTimeSpec.plain.varTypes Try.prog) (ds ++ gs)).all (· ≤ reachBytes) = true := hsz0
  have hval : ∀ (j : Nat) t v, Try.f12.params[j]? = some t → args[j]? = some v → Value.okWide Try.prog W .any base t v := hval0
  have hW' := hW
  obtain ⟨p, q, hA0, hV, rfl, hfz, hnd⟩ := hW
  have hA : DataW.TrodAll enc Try.prog W 0 (fun _ => true) true Try.f12.params.toList args.toList ds p := hA0
  rw [Try.params12] at hA hval hszg
  obtain ⟨v0, vs0, d0, ds0, p0, q0, hargs, rfl, rfl, h0, r0⟩ := trodAll_cons hA
  obtain ⟨v1, vs1, d1, ds1, p1, q1, rfl, rfl, rfl, h1, r1⟩ := trodAll_cons r0
  obtain ⟨v2, vs2, d2, ds2, p2, q2, rfl, rfl, rfl, h2, r2⟩ := trodAll_cons r1
  obtain ⟨v3, vs3, d3, ds3, p3, q3, rfl, rfl, rfl, h3, r3⟩ := trodAll_cons r2
  obtain ⟨rfl, rfl, rfl⟩ := trodAll_nil r3
  obtain rfl : args = #[v0, v1, v2, v3] := by cases args; simp_all
  obtain ⟨rfl, rfl⟩ := trodVars_none hV
  have k0 := h0
  have lt0 : ∀ x ∈ p0, x.block < W.heap.size := by obtain ⟨m, hm⟩ := k0; exact DataW.trod_lt m _ _ _ hm
  have k1 := h1
  have lt1 : ∀ x ∈ p1, x.block < W.heap.size := by obtain ⟨m, hm⟩ := k1; exact DataW.trod_lt m _ _ _ hm
  have k2 := h2
  have lt2 : ∀ x ∈ p2, x.block < W.heap.size := by obtain ⟨m, hm⟩ := k2; exact DataW.trod_lt m _ _ _ hm
  have k3 := h3
  have lt3 : ∀ x ∈ p3, x.block < W.heap.size := by obtain ⟨m, hm⟩ := k3; exact DataW.trod_lt m _ _ _ hm
  have o3 : Opens Try.prog (Cd.int .i64) 3 _ := opens_int Try.underlying3
  have o9 : Opens Try.prog Cd.str 9 _ := opens_string Try.underlying9
  have o4 : Opens Try.prog Cd.bool 4 _ := opens_bool Try.underlying4
  have o46 : Opens Try.prog entCd 46 _ := opens_fields Try.underlying46 (by kernel_rfl) (opensF_cons o3 rfl (by kernel_rfl) (opensF_cons o3 rfl (by kernel_rfl) (opensF_cons o9 rfl (by kernel_rfl) (opensF_cons o9 rfl (by kernel_rfl) (opensF_cons o9 rfl (by kernel_rfl) (opensF_one o4 rfl (by kernel_rfl)))))))
  have o44 : Opens Try.prog (Cd.slice entCd) 44 _ := opens_slice 72 Try.underlying44 o46 (by kernel_rfl) (by kernel_rfl) (by decide)
  have o64 : Opens Try.prog spanCd 64 _ := opens_fields Try.underlying64 (by kernel_rfl) (opensF_cons o3 rfl (by kernel_rfl) (opensF_one o3 rfl (by kernel_rfl)))
  have o59 : Opens Try.prog (Cd.slice spanCd) 59 _ := opens_slice 16 Try.underlying59 o64 (by kernel_rfl) (by kernel_rfl) (by decide)
  have o104 : Opens Try.prog factCd 104 _ := opens_fields Try.underlying104 (by kernel_rfl) (opensF_cons o9 rfl (by kernel_rfl) (opensF_one o59 rfl (by kernel_rfl)))
  have o34 : Opens Try.prog (Cd.slice factCd) 34 _ := opens_slice 40 Try.underlying34 o104 (by kernel_rfl) (by kernel_rfl) (by decide)
  obtain ⟨x0, K0, ok0⟩ := param_open o44 hszg (j := 0) (t := 44) rfl rfl h0
  obtain ⟨x1, K1, ok1⟩ := param_open o34 hszg (j := 1) (t := 34) rfl rfl h1
  obtain ⟨x2, K2, ok2⟩ := param_open o3 hszg (j := 2) (t := 3) rfl rfl h2
  obtain ⟨x3, K3, ok3⟩ := param_open o3 hszg (j := 3) (t := 3) rfl rfl h3
  have c0 : v0.oneCell' = true := by obtain ⟨_, _, _, e⟩ := okWide_slice Try.underlying44 (hval 0 44 v0 rfl rfl); rw [e]; rfl
  have c1 : v1.oneCell' = true := by obtain ⟨_, _, _, e⟩ := okWide_slice Try.underlying34 (hval 1 34 v1 rfl rfl); rw [e]; rfl
  have c2 : v2.oneCell' = true := by obtain ⟨_, e⟩ := okWide_int Try.underlying3 (hval 2 3 v2 rfl rfl); rw [e]; rfl
  have c3 : v3.oneCell' = true := by obtain ⟨_, e⟩ := okWide_int Try.underlying3 (hval 3 3 v3 rfl rfl); rw [e]; rfl
  clear hA0 hval0 hsz0
  have hok := SchedulesInTime x0 x1 x2 x3 (fun x hx => by
    have := ok0.2.2 x hx
    exact ⟨by omega, by omega, by omega⟩)
  refine (law_true hok (reps_of [(_, v0), (_, v1), (_, v2), (_, v3)] (fun p hp => ?_))).mono fun e W' ⟨he, bel0⟩ => ?_
  · simp only [List.mem_cons, List.not_mem_nil, or_false] at hp
    rcases hp with rfl | rfl | rfl | rfl
    · exact K0.one c0 _
    · exact K1.one c1 _
    · exact K2.one c2 _
    · exact K3.one c3 _
  have bel : Below W.heap.size W W' := bel0
  subst he
  exact ⟨_, rfl, _, _, _, [], _, [], hW', trodAll_mk1 (shut_bool Try.underlying4 _), (trodAll_cons_mk (Below.trod laidOut (by kernel_rfl) (of_decide_eq_true (by kernel_rfl)) k0 bel lt0) (trodAll_cons_mk (Below.trod laidOut (by kernel_rfl) (of_decide_eq_true (by kernel_rfl)) k1 bel lt1) (trodAll_cons_mk (Below.trod laidOut (by kernel_rfl) (of_decide_eq_true (by kernel_rfl)) k2 bel lt2) (trodAll_cons_mk (Below.trod laidOut (by kernel_rfl) (of_decide_eq_true (by kernel_rfl)) k3 bel lt3) trodAll_mk0)))), rfl, bel.frame _, fun h => by cases h⟩
set_option maxHeartbeats 4000000 in
theorem closed : joinedFacts Try.pinned.checked.prog 12 Try.f12 Rows.schedulesInTimeSpec Rows.schedulesInTimeRow = true := by
  unfold joinedFacts
  simp only [Bool.and_eq_true]
  repeat' apply And.intro
  all_goals as_aux_lemma => kernel_rfl
theorem over : Rows.schedulesInTimeRow.holds Try.pinned (OpenSpec.ofChange Rows.schedulesInTimeSpec) :=
  OpenClaim.holds_of_wide 12 Try.f12 rfl rfl rfl rfl rfl rfl rfl ⟨rfl, rfl, rfl, rfl, rfl⟩ rfl rfl rfl rfl rfl (by kernel_rfl) Try.func12 closed
    (of_decide_eq_true (by kernel_rfl)) (by unfold Func.isWrapper; first | (rw [if_pos (by decide +kernel)]; kernel_rfl) | (rw [if_neg (by decide +kernel)]; exact ⟨rfl, rfl⟩))
    (fun os started H enc _ => lifted os started H enc)
theorem proved : Rows.SchedulesInTimeSaid := over
end Go.Proofs.Ytaegjihmpgdfcaa.schedulesInTime
namespace Go.Proofs.Ytaegjihmpgdfcaa
/-- The row, under a short name, for the claim. -/
theorem schedulesInTime_holds : Rows.SchedulesInTimeSaid := schedulesInTime.proved
#print axioms schedulesInTime_holds
end Go.Proofs.Ytaegjihmpgdfcaa
