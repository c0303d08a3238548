/- The law DatesComeBack holds of the given program for every input: its row. -/
import Derived.Test.YtjldiihndmkpfaaDoorRows
import Derived.Test.YtjldiihndmkpfaaDoorTie
import Derived.Test.YtjldiihndmkpfaaDoorCards
import Derived.SevenTiedAt
import Derived.Handed
import Derived.LaidLaws
import Derived.Test.YtjldiihndmkpfaaDoorH15
import Derived.Test.YtjldiihndmkpfaaDoorEW
import Derived.WalkKit
import Derived.ProofKit
import Derived.OpenShut
import Derived.ShutString
import Derived.ChangeOld
import Derived.Below
import Derived.SizedLaws
set_option linter.unusedVariables false
set_option linter.unusedSimpArgs false
namespace Go.Proofs.YtjldiihndmkpfaaDoor.datesComeBack
open Go.ChangeShapes Go.WideShapes Go.ChangeAt Go.RowKit
open Go.ChangeMaps (open_string shut_string)
open Go.Ex Go.Proofs.P4
theorem own : ownKnob Tryd.prog.godebug = none := by kernel_rfl
theorem laidOut : laidOutB Tryd.prog = true := by kernel_rfl
set_option maxRecDepth 100000 in
theorem lifted (os : Os) (started : os.Started) (H : Type) (enc : TypeId × Value → H) :
    ReturnsInHanded {} Tryd.checked os 4 .any (fun w args => (Rows.datesComeBackSpec.pre enc Tryd.prog Tryd.f4 Rows.datesComeBackRow.domain false w args ∧ laidMetH Tryd.prog Rows.datesComeBackRow.laid w) ∧ sizedMet enc Tryd.prog Tryd.f4 (OpenSpec.ofChange Rows.datesComeBackSpec) false w args) (Rows.datesComeBackSpec.post enc Tryd.prog Tryd.f4 false true false false) := by
  refine returns_laid (C := Tryd.checked) (X := fun w _ => laidMetH Tryd.prog Rows.datesComeBackRow.laid w) (fun _ _ _ hh h => h.of_heap hh) own started (by kernel_rfl) Tryd.func4
    (ChangeSpec.witness_at (enc := enc) (C := Tryd.checked) (os := os) (X := fun w _ => laidMetH Tryd.prog Rows.datesComeBackRow.laid w) false (laidWorld os) #[.slice none 0 0, .int .i64 0, .int .i64 0, .string ⟨#[]⟩] 8 rfl (by kernel_rfl) (by kernel_rfl) (by kernel_rfl) (by kernel_rfl) (by kernel_rfl) (laid_three os _)) ?_
  intro W base args ds gs before hval0 hW hsz0 hL hsh
  have hszg : (DataW.weightsEach Tryd.prog (Tryd.f4.params.toList ++ Rows.datesComeBackSpec.plain.varTypes Tryd.prog) (ds ++ gs)).all (· ≤ reachBytes) = true := hsz0
  have hval : ∀ (j : Nat) t v, Tryd.f4.params[j]? = some t → args[j]? = some v → Value.okWide Tryd.prog W .any base t v := hval0
  have hW' := hW
  obtain ⟨p, q, hA0, hV, rfl, hfz, hnd⟩ := hW
  have hA : DataW.TrodAll enc Tryd.prog W 0 (fun _ => true) true Tryd.f4.params.toList args.toList ds p := hA0
  rw [Tryd.params4] at hA hval hszg
  obtain ⟨v0, vs0, d0, ds0, p0, q0, hargs, rfl, rfl, h0, r0⟩ := trodAll_cons hA
  obtain ⟨v1, vs1, d1, ds1, p1, q1, rfl, rfl, rfl, h1, r1⟩ := trodAll_cons r0
  obtain ⟨v2, vs2, d2, ds2, p2, q2, rfl, rfl, rfl, h2, r2⟩ := trodAll_cons r1
  obtain ⟨v3, vs3, d3, ds3, p3, q3, rfl, rfl, rfl, h3, r3⟩ := trodAll_cons r2
  obtain ⟨rfl, rfl, rfl⟩ := trodAll_nil r3
  obtain rfl : args = #[v0, v1, v2, v3] := by cases args; simp_all
  obtain ⟨rfl, rfl⟩ := trodVars_none hV
  have k0 := h0
  have lt0 : ∀ x ∈ p0, x.block < W.heap.size := by obtain ⟨m, hm⟩ := k0; exact DataW.trod_lt m _ _ _ hm
  have k1 := h1
  have lt1 : ∀ x ∈ p1, x.block < W.heap.size := by obtain ⟨m, hm⟩ := k1; exact DataW.trod_lt m _ _ _ hm
  have k2 := h2
  have lt2 : ∀ x ∈ p2, x.block < W.heap.size := by obtain ⟨m, hm⟩ := k2; exact DataW.trod_lt m _ _ _ hm
  have k3 := h3
  have lt3 : ∀ x ∈ p3, x.block < W.heap.size := by obtain ⟨m, hm⟩ := k3; exact DataW.trod_lt m _ _ _ hm
  have o3 : Opens Tryd.prog (Cd.int .i64) 3 _ := opens_int Tryd.underlying3
  have o22 : Opens Tryd.prog (Cd.slice (Cd.int .i64)) 22 _ := opens_slice 8 Tryd.underlying22 o3 (by kernel_rfl) (by kernel_rfl) (by decide)
  have o9 : Opens Tryd.prog Cd.str 9 _ := opens_string Tryd.underlying9
  obtain ⟨x0, K0, ok0⟩ := param_open o22 hszg (j := 0) (t := 22) rfl rfl h0
  obtain ⟨x1, K1, ok1⟩ := param_open o3 hszg (j := 1) (t := 3) rfl rfl h1
  obtain ⟨x2, K2, ok2⟩ := param_open o3 hszg (j := 2) (t := 3) rfl rfl h2
  obtain ⟨x3, K3, ok3⟩ := param_open o9 hszg (j := 3) (t := 9) rfl rfl h3
  have c0 : v0.oneCell' = true := by obtain ⟨_, _, _, e⟩ := okWide_slice Tryd.underlying22 (hval 0 22 v0 rfl rfl); rw [e]; rfl
  have c1 : v1.oneCell' = true := by obtain ⟨_, e⟩ := okWide_int Tryd.underlying3 (hval 1 3 v1 rfl rfl); rw [e]; rfl
  have c2 : v2.oneCell' = true := by obtain ⟨_, e⟩ := okWide_int Tryd.underlying3 (hval 2 3 v2 rfl rfl); rw [e]; rfl
  have c3 : v3.oneCell' = true := by obtain ⟨_, e⟩ := okWide_string Tryd.underlying9 (hval 3 9 v3 rfl rfl); rw [e]; rfl
  clear hA0 hval0 hsz0
  have hok := DatesComeBack x0 x1 x2 x3 
  refine (law_trueG (gok_laid hL hsh) hok (reps_of [(_, v0), (_, v1), (_, v2), (_, v3)] (fun p hp => ?_))).mono fun e W' ⟨he, bel0⟩ => ?_
  · simp only [List.mem_cons, List.not_mem_nil, or_false] at hp
    rcases hp with rfl | rfl | rfl | rfl
    · exact K0.one c0 _
    · exact K1.one c1 _
    · exact K2.one c2 _
    · exact K3.one c3 _
  have bel : Below W.heap.size W W' := bel0
  subst he
  exact ⟨_, rfl, _, _, _, [], _, [], hW', trodAll_mk1 (shut_bool Tryd.underlying4 _), (trodAll_cons_mk (Below.trod laidOut (by kernel_rfl) (of_decide_eq_true (by kernel_rfl)) k0 bel lt0) (trodAll_cons_mk (Below.trod laidOut (by kernel_rfl) (of_decide_eq_true (by kernel_rfl)) k1 bel lt1) (trodAll_cons_mk (Below.trod laidOut (by kernel_rfl) (of_decide_eq_true (by kernel_rfl)) k2 bel lt2) (trodAll_cons_mk (Below.trod laidOut (by kernel_rfl) (of_decide_eq_true (by kernel_rfl)) k3 bel lt3) trodAll_mk0)))), rfl, bel.frame _, fun h => by cases h⟩
set_option maxHeartbeats 4000000 in
theorem closed : joinedFacts Tryd.pinned.checked.prog 4 Tryd.f4 Rows.datesComeBackSpec Rows.datesComeBackRow = true := by
  unfold joinedFacts
  simp only [Bool.and_eq_true]
  repeat' apply And.intro
  all_goals as_aux_lemma => kernel_rfl
theorem over : Rows.datesComeBackRow.holds Tryd.pinned (OpenSpec.ofChange Rows.datesComeBackSpec) :=
  OpenClaim.holds_of_wide 4 Tryd.f4 rfl rfl rfl rfl rfl rfl rfl ⟨rfl, rfl, rfl, rfl, rfl⟩ rfl rfl rfl rfl rfl (by kernel_rfl) Tryd.func4 closed
    (of_decide_eq_true (by kernel_rfl)) (by unfold Func.isWrapper; first | (rw [if_pos (by decide +kernel)]; kernel_rfl) | (rw [if_neg (by decide +kernel)]; exact ⟨rfl, rfl⟩))
    (fun os started H enc _ => lifted os started H enc)
theorem card : Rows.DatesComeBackCardSaid :=
  Claim7.holds_tied_plain_at .later [] [.data, .data, .data] true (true, "70f66e0a9f0668fe7b77200c4bcd9df345c49a27764926bc2a9e1c58d23c5b86") true
    over (fun _ h => by cases h) (by kernel_rfl) (fun _ h => by cases h) datesComeBack_row_tie rfl ⟨rfl, rfl⟩ (by kernel_rfl) rfl
    (fun f fn hf hfn => by
      obtain rfl : f = 4 := Option.some.inj ((show Tryd.prog.funcNamed "perigee/perigeelaw2.DatesComeBack" = some 4 by kernel_rfl).symm.trans hf) |>.symm
      obtain rfl : fn = Tryd.f4 := (Option.some.inj (Tryd.func4.symm.trans hfn)).symm
      exact ⟨by kernel_rfl, fun j t ht => by
        rw [Tryd.params4] at ht
        have hm := Array.mem_of_getElem? ht
        simp only [List.mem_toArray, List.mem_cons, List.not_mem_nil, or_false] at hm
        rcases hm with rfl | rfl | rfl | rfl
        · exact (show Tryd.prog.wantsStandIn 22 = false by kernel_rfl)
        · exact (show Tryd.prog.wantsStandIn 3 = false by kernel_rfl)
        · exact (show Tryd.prog.wantsStandIn 3 = false by kernel_rfl)
        · exact (show Tryd.prog.wantsStandIn 9 = false by kernel_rfl)⟩)
    (by kernel_rfl)
end Go.Proofs.YtjldiihndmkpfaaDoor.datesComeBack
namespace Go.Proofs.YtjldiihndmkpfaaDoor
/-- The card, under a short name, for the claim. -/
theorem datesComeBack_holds : Rows.DatesComeBackCardSaid := datesComeBack.card
#print axioms datesComeBack_holds
end Go.Proofs.YtjldiihndmkpfaaDoor

