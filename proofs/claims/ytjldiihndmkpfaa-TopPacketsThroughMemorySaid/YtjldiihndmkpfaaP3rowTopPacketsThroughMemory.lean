/- The law TopPacketsThroughMemory holds of the given program for every input: its row. -/
import Derived.Test.YtjldiihndmkpfaaRows
import Derived.Test.YtjldiihndmkpfaaT9
import Derived.WalkKit
import Derived.ProofKit
import Derived.OpenShut
import Derived.ShutString
import Derived.ChangeOld
import Derived.Below
import Derived.SizedLaws
set_option linter.unusedVariables false
set_option linter.unusedSimpArgs false
namespace Go.Proofs.Ytjldiihndmkpfaa.topPacketsThroughMemory
open Go.ChangeShapes Go.WideShapes Go.ChangeAt Go.RowKit
open Go.ChangeMaps (open_string shut_string)
open Go.Ex Go.Proofs.P3
theorem own : ownKnob Try.prog.godebug = none := by kernel_rfl
theorem laidOut : laidOutB Try.prog = true := by kernel_rfl
set_option maxRecDepth 100000 in
theorem lifted (os : Os) (started : os.Started) (H : Type) (enc : TypeId × Value → H) :
    ReturnsInHanded {} Try.checked os 15 .any (Rows.topPacketsThroughMemorySpec.pre6 enc Try.prog Try.f15 Rows.topPacketsThroughMemoryRow.domain false) (Rows.topPacketsThroughMemorySpec.post enc Try.prog Try.f15 false true false false) := by
  refine returnsInHanded_of_change_sized (C := Try.checked) own started (by kernel_rfl) Try.func15
    (ChangeSpec.witness6 (enc := enc) (C := Try.checked) false ⟨#[], #[.agg #[.int .i64 0, .bool false, .int .i64 0, .int .i64 0, .slice none 0 0], .slice none 0 0], []⟩ 8 (by kernel_rfl) (by kernel_rfl) (by kernel_rfl) (by kernel_rfl)) ?_
  intro W base args ds gs before hval0 hW hcnd hsz0 _
  have hszg : (DataW.weightsEach Try.prog (Try.f15.params.toList ++ Rows.topPacketsThroughMemorySpec.plain.varTypes Try.prog) (ds ++ gs)).all (· ≤ reachBytes) = true := hsz0
  have hval : ∀ (j : Nat) t v, Try.f15.params[j]? = some t → args[j]? = some v → Value.okWide Try.prog W .any base t v := hval0
  have hW' := hW
  obtain ⟨p, q, hA0, hV, rfl, hfz, hnd⟩ := hW
  have hA : DataW.TrodAll enc Try.prog W 0 (fun _ => true) true Try.f15.params.toList args.toList ds p := hA0
  rw [Try.params15] at hA hval hszg
  obtain ⟨v0, vs0, d0, ds0, p0, q0, hargs, rfl, rfl, h0, r0⟩ := trodAll_cons hA
  obtain ⟨v1, vs1, d1, ds1, p1, q1, rfl, rfl, rfl, h1, r1⟩ := trodAll_cons r0
  obtain ⟨rfl, rfl, rfl⟩ := trodAll_nil r1
  obtain rfl : args = #[v0, v1] := by cases args; simp_all
  obtain ⟨rfl, rfl⟩ := trodVars_none hV
  have k0 := h0
  have lt0 : ∀ x ∈ p0, x.block < W.heap.size := by obtain ⟨m, hm⟩ := k0; exact DataW.trod_lt m _ _ _ hm
  have k1 := h1
  have lt1 : ∀ x ∈ p1, x.block < W.heap.size := by obtain ⟨m, hm⟩ := k1; exact DataW.trod_lt m _ _ _ hm
  have o3 : Opens Try.prog (Cd.int .i64) 3 _ := opens_int Try.underlying3
  have o4 : Opens Try.prog Cd.bool 4 _ := opens_bool Try.underlying4
  have o5 : Opens Try.prog byteCd 5 _ := opens_byte Try.underlying5
  have o78 : Opens Try.prog (Cd.slice byteCd) 78 _ := opens_slice 1 Try.underlying78 o5 (by kernel_rfl) (by kernel_rfl) (by decide)
  have o80 : Opens Try.prog pktCd 80 _ := opens_fields Try.underlying80 (by kernel_rfl) (opensF_cons o3 rfl (by kernel_rfl) (opensF_cons o4 rfl (by kernel_rfl) (opensF_cons o3 rfl (by kernel_rfl) (opensF_cons o3 rfl (by kernel_rfl) (opensF_one o78 rfl (by kernel_rfl))))))
  have o24 : Opens Try.prog (Cd.slice (Cd.int .i64)) 24 _ := opens_slice 8 Try.underlying24 o3 (by kernel_rfl) (by kernel_rfl) (by decide)
  obtain ⟨x0, K0, ok0⟩ := param_open o80 hszg (j := 0) (t := 80) rfl rfl h0
  obtain ⟨x1, K1, ok1⟩ := param_open o24 hszg (j := 1) (t := 24) rfl rfl h1
  have c0 := hval 0 80 v0 rfl rfl
  have c1 : v1.oneCell' = true := by obtain ⟨_, _, _, e⟩ := okWide_slice Try.underlying24 (hval 1 24 v1 rfl rfl); rw [e]; rfl
  clear hA0 hval0 hsz0
  have hok := TopPacketsThroughMemory x0 x1 (by have := ok1.1; omega)
  refine (law_true hok (reps_of [(_, v0), (_, v1)] (fun p hp => ?_))).mono fun e W' ⟨he, bel0⟩ => ?_
  · simp only [List.mem_cons, List.not_mem_nil, or_false] at hp
    rcases hp with rfl | rfl
    · exact K0.agg Try.underlying80 c0 _
    · exact K1.one c1 _
  have bel : Below W.heap.size W W' := bel0
  subst he
  exact ⟨_, rfl, _, _, _, [], _, [], hW', trodAll_mk1 (shut_bool Try.underlying4 _), (trodAll_cons_mk (Below.trod laidOut (by kernel_rfl) (of_decide_eq_true (by kernel_rfl)) k0 bel lt0) (trodAll_cons_mk (Below.trod laidOut (by kernel_rfl) (of_decide_eq_true (by kernel_rfl)) k1 bel lt1) trodAll_mk0)), rfl, bel.frame _, fun h => by cases h⟩
set_option maxHeartbeats 4000000 in
theorem closed : joinedFacts Try.pinned.checked.prog 15 Try.f15 Rows.topPacketsThroughMemorySpec Rows.topPacketsThroughMemoryRow = true := by
  unfold joinedFacts
  simp only [Bool.and_eq_true]
  repeat' apply And.intro
  all_goals as_aux_lemma => kernel_rfl
theorem over : Rows.topPacketsThroughMemoryRow.holds Try.pinned (OpenSpec.ofChange Rows.topPacketsThroughMemorySpec) :=
  OpenClaim.holds_of_wide 15 Try.f15 rfl rfl rfl rfl rfl rfl rfl ⟨rfl, rfl, rfl, rfl, rfl⟩ rfl rfl rfl rfl rfl (by kernel_rfl) Try.func15 closed
    (of_decide_eq_true (by kernel_rfl)) (by unfold Func.isWrapper; first | (rw [if_pos (by decide +kernel)]; kernel_rfl) | (rw [if_neg (by decide +kernel)]; exact ⟨rfl, rfl⟩))
    (fun os started H enc _ => lifted os started H enc)
theorem proved : Rows.TopPacketsThroughMemorySaid := over
end Go.Proofs.Ytjldiihndmkpfaa.topPacketsThroughMemory
namespace Go.Proofs.Ytjldiihndmkpfaa
/-- The row, under a short name, for the claim. -/
theorem topPacketsThroughMemory_holds : Rows.TopPacketsThroughMemorySaid := topPacketsThroughMemory.proved
#print axioms topPacketsThroughMemory_holds
end Go.Proofs.Ytjldiihndmkpfaa
