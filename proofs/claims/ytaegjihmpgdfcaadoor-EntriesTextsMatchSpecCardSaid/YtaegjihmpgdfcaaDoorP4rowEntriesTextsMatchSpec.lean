/- The law EntriesTextsMatchSpec holds of the given program for every input: its row. -/
import Derived.Test.YtaegjihmpgdfcaaDoorRows
import Derived.Test.YtaegjihmpgdfcaaDoorTie
import Derived.Test.YtaegjihmpgdfcaaDoorCards
import Derived.SevenTiedAt
import Derived.Handed
import Derived.LaidLaws
import Derived.Test.YtaegjihmpgdfcaaDoorA7
import Derived.Test.YtaegjihmpgdfcaaDoorNW
import Derived.WalkKit
import Derived.ProofKit
import Derived.OpenShut
import Derived.ShutString
import Derived.ChangeOld
import Derived.Below
import Derived.SizedLaws
set_option linter.unusedVariables false
set_option linter.unusedSimpArgs false
namespace Go.Proofs.YtaegjihmpgdfcaaDoor.entriesTextsMatchSpec
open Go.ChangeShapes Go.WideShapes Go.ChangeAt Go.RowKit
open Go.ChangeMaps (open_string shut_string)
open Go.Ex Go.Proofs.P4
theorem own : ownKnob Tryd.prog.godebug = none := by kernel_rfl
theorem laidOut : laidOutB Tryd.prog = true := by kernel_rfl
set_option maxRecDepth 100000 in
theorem lifted (os : Os) (started : os.Started) (H : Type) (enc : TypeId × Value → H) :
    ReturnsInHanded {} Tryd.checked os 5 .any (fun w args => (Rows.entriesTextsMatchSpecSpec.pre enc Tryd.prog Tryd.f5 Rows.entriesTextsMatchSpecRow.domain false w args ∧ laidMetH Tryd.prog Rows.entriesTextsMatchSpecRow.laid w) ∧ sizedMet enc Tryd.prog Tryd.f5 (OpenSpec.ofChange Rows.entriesTextsMatchSpecSpec) false w args) (Rows.entriesTextsMatchSpecSpec.post enc Tryd.prog Tryd.f5 false true false false) := by
  refine returns_laid (C := Tryd.checked) (X := fun w _ => laidMetH Tryd.prog Rows.entriesTextsMatchSpecRow.laid w) (fun _ _ _ hh h => h.of_heap hh) own started (by kernel_rfl) Tryd.func5
    (ChangeSpec.witness_at (enc := enc) (C := Tryd.checked) (os := os) (X := fun w _ => laidMetH Tryd.prog Rows.entriesTextsMatchSpecRow.laid w) false (laidWorld os) #[.slice none 0 0, .string ⟨#[]⟩] 8 rfl (by kernel_rfl) (by kernel_rfl) (by kernel_rfl) (by kernel_rfl) (by kernel_rfl) (laid_five os _)) ?_
  intro W base args ds gs before hval0 hW hsz0 hL hsh
  have hszg : (DataW.weightsEach Tryd.prog (Tryd.f5.params.toList ++ Rows.entriesTextsMatchSpecSpec.plain.varTypes Tryd.prog) (ds ++ gs)).all (· ≤ reachBytes) = true := hsz0
  have hval : ∀ (j : Nat) t v, Tryd.f5.params[j]? = some t → args[j]? = some v → Value.okWide Tryd.prog W .any base t v := hval0
  have hW' := hW
  obtain ⟨p, q, hA0, hV, rfl, hfz, hnd⟩ := hW
  have hA : DataW.TrodAll enc Tryd.prog W 0 (fun _ => true) true Tryd.f5.params.toList args.toList ds p := hA0
  rw [Tryd.params5] at hA hval hszg
  obtain ⟨v0, vs0, d0, ds0, p0, q0, hargs, rfl, rfl, h0, r0⟩ := trodAll_cons hA
  obtain ⟨v1, vs1, d1, ds1, p1, q1, rfl, rfl, rfl, h1, r1⟩ := trodAll_cons r0
  obtain ⟨rfl, rfl, rfl⟩ := trodAll_nil r1
  obtain rfl : args = #[v0, v1] := by cases args; simp_all
  obtain ⟨rfl, rfl⟩ := trodVars_none hV
  have k0 := h0
  have lt0 : ∀ x ∈ p0, x.block < W.heap.size := by obtain ⟨m, hm⟩ := k0; exact DataW.trod_lt m _ _ _ hm
  have k1 := h1
  have lt1 : ∀ x ∈ p1, x.block < W.heap.size := by obtain ⟨m, hm⟩ := k1; exact DataW.trod_lt m _ _ _ hm
  have o3 : Opens Tryd.prog (Cd.int .i64) 3 _ := opens_int Tryd.underlying3
  have o9 : Opens Tryd.prog Cd.str 9 _ := opens_string Tryd.underlying9
  have o4 : Opens Tryd.prog Cd.bool 4 _ := opens_bool Tryd.underlying4
  have o37 : Opens Tryd.prog entCd 37 _ := opens_fields Tryd.underlying37 (by kernel_rfl) (opensF_cons o3 rfl (by kernel_rfl) (opensF_cons o3 rfl (by kernel_rfl) (opensF_cons o9 rfl (by kernel_rfl) (opensF_cons o9 rfl (by kernel_rfl) (opensF_cons o9 rfl (by kernel_rfl) (opensF_one o4 rfl (by kernel_rfl)))))))
  have o31 : Opens Tryd.prog (Cd.slice entCd) 31 _ := opens_slice 72 Tryd.underlying31 o37 (by kernel_rfl) (by kernel_rfl) (by decide)
  obtain ⟨x0, K0, ok0⟩ := param_open o31 hszg (j := 0) (t := 31) rfl rfl h0
  obtain ⟨x1, K1, ok1⟩ := param_open o9 hszg (j := 1) (t := 9) rfl rfl h1
  have c0 : v0.oneCell' = true := by obtain ⟨_, _, _, e⟩ := okWide_slice Tryd.underlying31 (hval 0 31 v0 rfl rfl); rw [e]; rfl
  have c1 : v1.oneCell' = true := by obtain ⟨_, e⟩ := okWide_string Tryd.underlying9 (hval 1 9 v1 rfl rfl); rw [e]; rfl
  clear hA0 hval0 hsz0
  have hok := EntriesTextsMatchSpec x0 x1 (fun x hx => by
    have := ok0.2.2 x hx
    exact ⟨by omega, by omega, by omega⟩)
  refine (law_trueG (gok_laid hL hsh) hok (reps_of [(_, v0), (_, v1)] (fun p hp => ?_))).mono fun e W' ⟨he, bel0⟩ => ?_
  · simp only [List.mem_cons, List.not_mem_nil, or_false] at hp
    rcases hp with rfl | rfl
    · exact K0.one c0 _
    · exact K1.one c1 _
  have bel : Below W.heap.size W W' := bel0
  subst he
  exact ⟨_, rfl, _, _, _, [], _, [], hW', trodAll_mk1 (shut_bool Tryd.underlying4 _), (trodAll_cons_mk (Below.trod laidOut (by kernel_rfl) (of_decide_eq_true (by kernel_rfl)) k0 bel lt0) (trodAll_cons_mk (Below.trod laidOut (by kernel_rfl) (of_decide_eq_true (by kernel_rfl)) k1 bel lt1) trodAll_mk0)), rfl, bel.frame _, fun h => by cases h⟩
set_option maxHeartbeats 4000000 in
theorem closed : joinedFacts Tryd.pinned.checked.prog 5 Tryd.f5 Rows.entriesTextsMatchSpecSpec Rows.entriesTextsMatchSpecRow = true := by
  unfold joinedFacts
  simp only [Bool.and_eq_true]
  repeat' apply And.intro
  all_goals as_aux_lemma => kernel_rfl
theorem over : Rows.entriesTextsMatchSpecRow.holds Tryd.pinned (OpenSpec.ofChange Rows.entriesTextsMatchSpecSpec) :=
  OpenClaim.holds_of_wide 5 Tryd.f5 rfl rfl rfl rfl rfl rfl rfl ⟨rfl, rfl, rfl, rfl, rfl⟩ rfl rfl rfl rfl rfl (by kernel_rfl) Tryd.func5 closed
    (of_decide_eq_true (by kernel_rfl)) (by unfold Func.isWrapper; first | (rw [if_pos (by decide +kernel)]; kernel_rfl) | (rw [if_neg (by decide +kernel)]; exact ⟨rfl, rfl⟩))
    (fun os started H enc _ => lifted os started H enc)
theorem card : Rows.EntriesTextsMatchSpecCardSaid :=
  Claim7.holds_tied_plain_at .later [] [.data, .data, .data, .data, .pinned] true (true, "45e844b3c2d6c6e5443dce811da7f35cb65236a812e883aabdf3738357fe5b48") false
    over (fun _ h => by cases h) (by kernel_rfl) (fun _ h => by cases h) entriesTextsMatchSpec_row_tie rfl ⟨rfl, rfl⟩ (by kernel_rfl) rfl
    (fun f fn hf hfn => by
      obtain rfl : f = 5 := Option.some.inj ((show Tryd.prog.funcNamed "perigee/perigeelaw6.EntriesTextsMatchSpec" = some 5 by kernel_rfl).symm.trans hf) |>.symm
      obtain rfl : fn = Tryd.f5 := (Option.some.inj (Tryd.func5.symm.trans hfn)).symm
      exact ⟨by kernel_rfl, fun j t ht => by
        rw [Tryd.params5] at ht
        have hm := Array.mem_of_getElem? ht
        simp only [List.mem_toArray, List.mem_cons, List.not_mem_nil, or_false] at hm
        rcases hm with rfl | rfl
        · exact (show Tryd.prog.wantsStandIn 31 = false by kernel_rfl)
        · exact (show Tryd.prog.wantsStandIn 9 = false by kernel_rfl)⟩)
    (by kernel_rfl)
end Go.Proofs.YtaegjihmpgdfcaaDoor.entriesTextsMatchSpec
namespace Go.Proofs.YtaegjihmpgdfcaaDoor
/-- The card, under a short name, for the claim. -/
theorem entriesTextsMatchSpec_holds : Rows.EntriesTextsMatchSpecCardSaid := entriesTextsMatchSpec.card
#print axioms entriesTextsMatchSpec_holds
end Go.Proofs.YtaegjihmpgdfcaaDoor

