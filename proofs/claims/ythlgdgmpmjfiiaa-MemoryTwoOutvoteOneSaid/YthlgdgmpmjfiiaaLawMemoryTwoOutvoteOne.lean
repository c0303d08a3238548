/- The row of the law, out of its pure statement and the walk. Written by a program of this session (wip/hand.py); Lean checks it. -/
import Derived.Test.YthlgdgmpmjfiiaaRows
import Derived.Test.YthlgdgmpmjfiiaaQMemoryTwoOutvoteOnex4
import Derived.Test.YthlgdgmpmjfiiaaPureMemoryTwoOutvoteOne
import Derived.Test.YthlgdgmpmjfiiaaOpens
import Derived.WalkKit
import Derived.ProofKit
import Derived.OpenShut
import Derived.ShutString
import Derived.ChangeOld
import Derived.Below
import Derived.SizedLaws
set_option linter.unusedVariables false
set_option linter.unusedSimpArgs false
namespace Go.Proofs.Ythlgdgmpmjfiiaa.memoryTwoOutvoteOne
open Go.ChangeShapes Go.WideShapes Go.ChangeAt Go.RowKit
open Go.ChangeMaps (open_string shut_string)
open Go.Proofs.Ythlgdgmpmjfiiaa.QMemoryTwoOutvoteOne Go.Proofs.Ythlgdgmpmjfiiaa.Opens Go.Proofs.YthlgdgmpmjfiiaaW.PrintWords Go.Proofs.YthlgdgmpmjfiiaaW.PrintLast Go.Proofs.YthlgdgmpmjfiiaaW.PrintMore
theorem own : ownKnob Try.prog.godebug = none := by kernel_rfl
theorem laidOut : laidOutB Try.prog = true := by kernel_rfl
theorem opens_k33 : Opens Try.prog k33 33 (fun x => ((x.f0.length ≤ maxLen ∧ x.f0.length * 8 ≤ 140737488351232 ∧ ∀ x2 ∈ x.f0, (Lit.int .i64 x2).wf = true) ∧ (x.f1.length ≤ maxLen ∧ x.f1.length * 8 ≤ 140737488351232 ∧ ∀ x2 ∈ x.f1, (Lit.int .i64 x2).wf = true))) :=
  opens_struct Try.underlying33 (by kernel_rfl) (opensF_cons (opens_slice 8 Try.underlying31 (opens_int Try.underlying3) (by kernel_rfl) (by kernel_rfl) 3) rfl (by kernel_rfl) (opensF_one (opens_slice 8 Try.underlying31 (opens_int Try.underlying3) (by kernel_rfl) (by kernel_rfl) 3) rfl (by kernel_rfl))) (fun a => ⟨⟨a.1, a.2⟩, rfl⟩)
set_option maxRecDepth 100000 in
theorem lifted (os : Os) (started : os.Started) (H : Type) (enc : TypeId × Value → H) :
    ReturnsInHanded {} Try.checked os 6 .any (Rows.memoryTwoOutvoteOneSpec.pre6 enc Try.prog Try.f6 Rows.memoryTwoOutvoteOneRow.domain false) (Rows.memoryTwoOutvoteOneSpec.post enc Try.prog Try.f6 false true false false) := by
  refine returnsInHanded_of_change_sized (C := Try.checked) own started (by kernel_rfl) Try.func6
    (ChangeSpec.witness6 (enc := enc) (C := Try.checked) false ⟨#[], #[.agg #[.slice none 0 0, .slice none 0 0], .agg #[.slice none 0 0, .slice none 0 0]], []⟩ 8 (by kernel_rfl) (by kernel_rfl) (by kernel_rfl) (by kernel_rfl)) ?_
  intro W base args ds gs before hval0 hW hcnd hsz0 _
  have hszg : (DataW.weightsEach Try.prog (Try.f6.params.toList ++ Rows.memoryTwoOutvoteOneSpec.plain.varTypes Try.prog) (ds ++ gs)).all (· ≤ reachBytes) = true := hsz0
  have hval : ∀ (j : Nat) t v, Try.f6.params[j]? = some t → args[j]? = some v → Value.okWide Try.prog W .any base t v := hval0
  have hW' := hW
  obtain ⟨p, q, hA0, hV, rfl, hfz, hnd⟩ := hW
  have hA : DataW.TrodAll enc Try.prog W 0 (fun _ => true) true Try.f6.params.toList args.toList ds p := hA0
  rw [Try.params6] at hA hval hszg
  obtain ⟨v0, vs0, d0, ds0, p0, q0, hargs, rfl, rfl, h0, r0⟩ := trodAll_cons hA
  obtain ⟨v1, vs1, d1, ds1, p1, q1, rfl, rfl, rfl, h1, r1⟩ := trodAll_cons r0
  obtain ⟨rfl, rfl, rfl⟩ := trodAll_nil r1
  obtain rfl : args = #[v0, v1] := by cases args; simp_all
  obtain ⟨rfl, rfl⟩ := trodVars_none hV
  have k0 := h0
  have lt0 : ∀ x ∈ p0, x.block < W.heap.size := by obtain ⟨m, hm⟩ := k0; exact DataW.trod_lt m _ _ _ hm
  obtain ⟨x0, K0, ok0⟩ := param_open opens_k33 hszg (j := 0) (t := 33) rfl rfl h0
  obtain ⟨A0_0, c0_0, A0_1, c0_1, hcs0, hc0_0, hr0_0, hc0_1, hr0_1⟩ := k33_open K0
  obtain rfl := agg_of Try.underlying33 (hval 0 33 v0 rfl rfl) hcs0
  have k1 := h1
  have lt1 : ∀ x ∈ p1, x.block < W.heap.size := by obtain ⟨m, hm⟩ := k1; exact DataW.trod_lt m _ _ _ hm
  obtain ⟨x1, K1, ok1⟩ := param_open opens_k33 hszg (j := 1) (t := 33) rfl rfl h1
  obtain ⟨A1_0, c1_0, A1_1, c1_1, hcs1, hc1_0, hr1_0, hc1_1, hr1_1⟩ := k33_open K1
  obtain rfl := agg_of Try.underlying33 (hval 1 33 v1 rfl rfl) hcs1
  clear hA0 hval0 hsz0
  obtain ⟨k, hk⟩ := Pure.MemoryTwoOutvoteOne x0.f0 x0.f1 x1.f0 x1.f1 ok0.1 ok0.2 ok1.1 ok1.2
  refine (perigeelaw3_MemoryTwoOutvoteOne.calls k _ _ x0.f0 _ _ x0.f1 _ _ x1.f0 _ _ x1.f1 true W hr0_0 hc0_0 hr0_1 hc0_1 hr1_0 hc1_0 hr1_1 hc1_1 hk).mono fun e W' ⟨he, bel0⟩ => ?_
  have bel : Below W.heap.size W W' := bel0
  subst he
  exact ⟨_, rfl, _, _, _, [], _, [], hW', trodAll_mk1 (shut_bool Try.underlying4 _), (trodAll_cons_mk (Below.trod laidOut (by kernel_rfl) (of_decide_eq_true (by kernel_rfl)) k0 bel lt0) (trodAll_cons_mk (Below.trod laidOut (by kernel_rfl) (of_decide_eq_true (by kernel_rfl)) k1 bel lt1) trodAll_mk0)), rfl, bel.frame _, fun h => by cases h⟩
theorem over : Rows.memoryTwoOutvoteOneRow.holds Try.pinned (OpenSpec.ofChange Rows.memoryTwoOutvoteOneSpec) :=
  OpenClaim.holds_of_wide 6 Try.f6 rfl rfl rfl rfl rfl rfl rfl ⟨rfl, rfl, rfl, rfl, rfl⟩ rfl rfl rfl rfl rfl (by kernel_rfl) Try.func6 (by kernel_rfl)
    (of_decide_eq_true (by kernel_rfl)) (by unfold Func.isWrapper; first | (rw [if_pos (by decide +kernel)]; kernel_rfl) | (rw [if_neg (by decide +kernel)]; exact ⟨rfl, rfl⟩))
    (fun os started H enc _ => lifted os started H enc)
theorem proved : Rows.MemoryTwoOutvoteOneSaid := over
#print axioms proved
end Go.Proofs.Ythlgdgmpmjfiiaa.memoryTwoOutvoteOne
namespace Go.Proofs.Ythlgdgmpmjfiiaa
/-- The row, under a short name, for the claim. -/
theorem memoryTwoOutvoteOne_holds : Rows.MemoryTwoOutvoteOneSaid := memoryTwoOutvoteOne.proved
end Go.Proofs.Ythlgdgmpmjfiiaa
