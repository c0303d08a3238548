/- The row of the law, out of its pure statement and the walk. Written by a program of this session (wip/hand.py); Lean checks it. -/
import Derived.Test.YthlgdgmpmjfiiaaRows
import Derived.Test.YthlgdgmpmjfiiaaQMemoryBanksMatchSpecx8
import Derived.Test.YthlgdgmpmjfiiaaPureMemoryBanksMatchSpec
import Derived.Test.YthlgdgmpmjfiiaaOpens
import Derived.WalkKit
import Derived.ProofKit
import Derived.OpenShut
import Derived.ShutString
import Derived.ChangeOld
import Derived.Below
import Derived.SizedLaws
set_option linter.unusedVariables false
set_option linter.unusedSimpArgs false
namespace Go.Proofs.Ythlgdgmpmjfiiaa.memoryBanksMatchSpec
open Go.ChangeShapes Go.WideShapes Go.ChangeAt Go.RowKit
open Go.ChangeMaps (open_string shut_string)
open Go.Proofs.Ythlgdgmpmjfiiaa.QMemoryBanksMatchSpec Go.Proofs.Ythlgdgmpmjfiiaa.Opens Go.Proofs.YthlgdgmpmjfiiaaW.PrintWords Go.Proofs.YthlgdgmpmjfiiaaW.PrintLast Go.Proofs.YthlgdgmpmjfiiaaW.PrintMore
theorem own : ownKnob Try.prog.godebug = none := by kernel_rfl
theorem laidOut : laidOutB Try.prog = true := by kernel_rfl
theorem opens_k33 : Opens Try.prog k33 33 (fun x => ((x.f0.length ≤ maxLen ∧ x.f0.length * 8 ≤ 140737488351232 ∧ ∀ x2 ∈ x.f0, (Lit.int .i64 x2).wf = true) ∧ (x.f1.length ≤ maxLen ∧ x.f1.length * 8 ≤ 140737488351232 ∧ ∀ x2 ∈ x.f1, (Lit.int .i64 x2).wf = true))) :=
  opens_struct Try.underlying33 (by kernel_rfl) (opensF_cons (opens_slice 8 Try.underlying31 (opens_int Try.underlying3) (by kernel_rfl) (by kernel_rfl) 3) rfl (by kernel_rfl) (opensF_one (opens_slice 8 Try.underlying31 (opens_int Try.underlying3) (by kernel_rfl) (by kernel_rfl) 3) rfl (by kernel_rfl))) (fun a => ⟨⟨a.1, a.2⟩, rfl⟩)
set_option maxRecDepth 100000 in
theorem lifted (os : Os) (started : os.Started) (H : Type) (enc : TypeId × Value → H) :
    ReturnsInHanded {} Try.checked os 10 .any (Rows.memoryBanksMatchSpecSpec.pre6 enc Try.prog Try.f10 Rows.memoryBanksMatchSpecRow.domain false) (Rows.memoryBanksMatchSpecSpec.post enc Try.prog Try.f10 false true false false) := by
  refine returnsInHanded_of_change_sized (C := Try.checked) own started (by kernel_rfl) Try.func10
    (ChangeSpec.witness6 (enc := enc) (C := Try.checked) false ⟨#[], #[.agg #[.slice none 0 0, .slice none 0 0], .int .i64 0, .int .i64 0, .int .i64 0], []⟩ 8 (by kernel_rfl) (by kernel_rfl) (by kernel_rfl) (by kernel_rfl)) ?_
  intro W base args ds gs before hval0 hW hcnd hsz0 _
  have hszg : (DataW.weightsEach Try.prog (Try.f10.params.toList ++ Rows.memoryBanksMatchSpecSpec.plain.varTypes Try.prog) (ds ++ gs)).all (· ≤ reachBytes) = true := hsz0
  have hval : ∀ (j : Nat) t v, Try.f10.params[j]? = some t → args[j]? = some v → Value.okWide Try.prog W .any base t v := hval0
  have hW' := hW
  obtain ⟨p, q, hA0, hV, rfl, hfz, hnd⟩ := hW
  have hA : DataW.TrodAll enc Try.prog W 0 (fun _ => true) true Try.f10.params.toList args.toList ds p := hA0
  rw [Try.params10] at hA hval hszg
  obtain ⟨v0, vs0, d0, ds0, p0, q0, hargs, rfl, rfl, h0, r0⟩ := trodAll_cons hA
  obtain ⟨v1, vs1, d1, ds1, p1, q1, rfl, rfl, rfl, h1, r1⟩ := trodAll_cons r0
  obtain ⟨v2, vs2, d2, ds2, p2, q2, rfl, rfl, rfl, h2, r2⟩ := trodAll_cons r1
  obtain ⟨v3, vs3, d3, ds3, p3, q3, rfl, rfl, rfl, h3, r3⟩ := trodAll_cons r2
  obtain ⟨rfl, rfl, rfl⟩ := trodAll_nil r3
  obtain rfl : args = #[v0, v1, v2, v3] := by cases args; simp_all
  obtain ⟨rfl, rfl⟩ := trodVars_none hV
  have k0 := h0
  have lt0 : ∀ x ∈ p0, x.block < W.heap.size := by obtain ⟨m, hm⟩ := k0; exact DataW.trod_lt m _ _ _ hm
  obtain ⟨x0, K0, ok0⟩ := param_open opens_k33 hszg (j := 0) (t := 33) rfl rfl h0
  obtain ⟨A0_0, c0_0, A0_1, c0_1, hcs0, hc0_0, hr0_0, hc0_1, hr0_1⟩ := k33_open K0
  obtain rfl := agg_of Try.underlying33 (hval 0 33 v0 rfl rfl) hcs0
  obtain ⟨a1, rfl, rfl, rfl, w1⟩ := open_int Try.underlying3 (hval 1 3 v1 rfl rfl) h1
  obtain ⟨a2, rfl, rfl, rfl, w2⟩ := open_int Try.underlying3 (hval 2 3 v2 rfl rfl) h2
  obtain ⟨a3, rfl, rfl, rfl, w3⟩ := open_int Try.underlying3 (hval 3 3 v3 rfl rfl) h3
  clear hA0 hval0 hsz0
  obtain ⟨k, hk⟩ := Pure.MemoryBanksMatchSpec x0.f0 x0.f1 a1 a2 a3 ok0.1 ok0.2 w1 w2 w3
  refine (perigeelaw3_MemoryBanksMatchSpec.calls k _ _ x0.f0 _ _ x0.f1 a1 a2 a3 true W hr0_0 hc0_0 hr0_1 hc0_1 hk).mono fun e W' ⟨he, bel0⟩ => ?_
  have bel : Below W.heap.size W W' := bel0
  subst he
  exact ⟨_, rfl, _, _, _, [], _, [], hW', trodAll_mk1 (shut_bool Try.underlying4 _), (trodAll_cons_mk (Below.trod laidOut (by kernel_rfl) (of_decide_eq_true (by kernel_rfl)) k0 bel lt0) (trodAll_cons_mk (shut_int Try.underlying3 w1) (trodAll_cons_mk (shut_int Try.underlying3 w2) (trodAll_cons_mk (shut_int Try.underlying3 w3) trodAll_mk0)))), rfl, bel.frame _, fun h => by cases h⟩
theorem over : Rows.memoryBanksMatchSpecRow.holds Try.pinned (OpenSpec.ofChange Rows.memoryBanksMatchSpecSpec) :=
  OpenClaim.holds_of_wide 10 Try.f10 rfl rfl rfl rfl rfl rfl rfl ⟨rfl, rfl, rfl, rfl, rfl⟩ rfl rfl rfl rfl rfl (by kernel_rfl) Try.func10 (by kernel_rfl)
    (of_decide_eq_true (by kernel_rfl)) (by unfold Func.isWrapper; first | (rw [if_pos (by decide +kernel)]; kernel_rfl) | (rw [if_neg (by decide +kernel)]; exact ⟨rfl, rfl⟩))
    (fun os started H enc _ => lifted os started H enc)
theorem proved : Rows.MemoryBanksMatchSpecSaid := over
#print axioms proved
end Go.Proofs.Ythlgdgmpmjfiiaa.memoryBanksMatchSpec
namespace Go.Proofs.Ythlgdgmpmjfiiaa
/-- The row, under a short name, for the claim. -/
theorem memoryBanksMatchSpec_holds : Rows.MemoryBanksMatchSpecSaid := memoryBanksMatchSpec.proved
end Go.Proofs.Ythlgdgmpmjfiiaa
