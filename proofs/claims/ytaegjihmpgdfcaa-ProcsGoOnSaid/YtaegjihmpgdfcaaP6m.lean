/- The runner waits, and steps. -/
import Derived.Test.YtaegjihmpgdfcaaP6l
set_option linter.unusedVariables false
set_option linter.unusedSimpArgs false
set_option maxRecDepth 10000
set_option maxHeartbeats 8000000
namespace Go.Proofs.P6
open Go.Ex
theorem M.to_set (m : M) (t : Int) (a : List Place) (y : Place) : (m.to t).set a y = ⟨a ++ [y], if m.now < t then t else m.now, if m.now < t then 0 else m.done, m.all, m.did⟩ := by
  unfold M.to M.set
  split <;> rfl
/-- What the runner and the walk answer. -/
def ResQ (C : V → V → Int → Int → Int → List V) (nx rid : Nat) (r : Res) (v : V) (h' : Hp) (nx' : Nat) : Prop := nx ≤ nx' ∧ match r with
  | .go m' => v = .bool true ∧ Rs C h' nx' rid m'
  | .stop m' => v = .bool false ∧ Rs C h' nx' rid m'
  | .err _ => False
section
variable {p : List Prc} {f : List Fact} {until' : Int} {h : Hp} {nx rid : Nat} {a : List Place} {x : Place} {now done all : Int} {did : List Did} {pv dv : V} {id ver off : Nat} {cells : List V}
theorem res_on {r : Res} {y : Place} {nw dn : Int} {h1 h' : Hp} {nx1 nx' : Nat} (hres : r = .go ⟨a ++ [y], nw, dn, all, did⟩) (hq : OnQ p f until' h1 nx1 rid a y nw dn all did pv dv id ver off h' nx') (hx : nx ≤ nx1) : ResQ (C1 p f until') nx rid r (.bool true) h' nx' := by
  obtain ⟨rfl, cells', _, hq⟩ := hq
  rw [hres]
  exact ⟨hx, rfl, hq.close⟩
theorem res_stop {r : Res} {h1 : Hp} {nx1 : Nat} (hres : r = .stop ⟨a ++ [x], now, done, all, did⟩) (hR : Rn (C1 p f until') h1 nx1 rid a x now done all did pv dv id ver off cells) (hx : nx ≤ nx1) : ResQ (C1 p f until') nx rid r (.bool false) h1 nx1 := by
  rw [hres]
  exact ⟨hx, rfl, hR.close⟩
theorem wait_cond {s : Step} {x : Place} {now : Int} (hA : s.1 = 3 → (since (spansOf f s.2.1) now).2 = true → (since (spansOf f s.2.1) now).1 ≤ x.2.2 → False) : ¬ (decide (s.1 = 3) && (since (spansOf f s.2.1) now).2 && decide ((since (spansOf f s.2.1) now).1 ≤ x.2.2)) = true := by
  simp only [Bool.and_eq_true, decide_eq_true_eq]
  rintro ⟨⟨q0, q1⟩, q2⟩
  exact hA q0 q1 q2
theorem waited_rest {pl : List Place} {l : List Step} {s : Step} (hA : s.1 = 3 → (since (spansOf f s.2.1) now).2 = true → (since (spansOf f s.2.1) now).1 ≤ x.2.2 → False) (hu : x.2.2 ≤ until') :
    waited f until' ⟨pl, now, done, all, did⟩ a x l s = .go ⟨a ++ [(x.1, if s.1 = 3 then labI l s.2.2.1 + 1 else x.2.1 + 1, -1)], if now < x.2.2 then x.2.2 else now, if now < x.2.2 then 0 else done, all, did⟩ := by
  unfold waited
  rw [if_neg (wait_cond hA), if_neg (by omega), M.to_set]
theorem waited_rest_stop {l : List Step} {s : Step} (hA : s.1 = 3 → (since (spansOf f s.2.1) now).2 = true → (since (spansOf f s.2.1) now).1 ≤ x.2.2 → False) (hu : until' < x.2.2) :
    waited f until' ⟨a ++ [x], now, done, all, did⟩ a x l s = .stop ⟨a ++ [x], now, done, all, did⟩ := by
  unfold waited
  rw [if_neg (wait_cond hA), if_pos hu]
  rfl
theorem waited_fact {pl : List Place} {l : List Step} {s : Step} (h1 : s.1 = 3) (h2 : (since (spansOf f s.2.1) now).2 = true) (h3 : (since (spansOf f s.2.1) now).1 ≤ x.2.2) (hu : (since (spansOf f s.2.1) now).1 ≤ until') :
    waited f until' ⟨pl, now, done, all, did⟩ a x l s = .go ⟨a ++ [(x.1, x.2.1 + 1, -1)], if now < (since (spansOf f s.2.1) now).1 then (since (spansOf f s.2.1) now).1 else now, if now < (since (spansOf f s.2.1) now).1 then 0 else done, all, did⟩ := by
  unfold waited
  rw [if_pos (by simp [h1, h2, h3]), if_neg (by simp only; omega), M.to_set]
theorem waited_fact_stop {l : List Step} {s : Step} (h1 : s.1 = 3) (h2 : (since (spansOf f s.2.1) now).2 = true) (h3 : (since (spansOf f s.2.1) now).1 ≤ x.2.2) (hu : until' < (since (spansOf f s.2.1) now).1) :
    waited f until' ⟨a ++ [x], now, done, all, did⟩ a x l s = .stop ⟨a ++ [x], now, done, all, did⟩ := by
  unfold waited
  rw [if_pos (by simp [h1, h2, h3]), if_pos hu]
  rfl
theorem wait_ok (hR : Rn (C1 p f until') h nx rid a x now done all did pv dv id ver off cells) (ha : a.length < 2 ^ 62) (hp : p.length < 2 ^ 62) (hF : factsE f = 0) (hx : PF p x) (hl : (stepsOf p x.1).length ≤ 200) (hnow : now ≤ until') (s : Step) (hk : s.1 = 2 ∨ s.1 = 3) (h0 : 0 ≤ x.2.2) :
    SEx Try.prog 121 [.pt rid 0 0, .agg (stepV s)] h nx (ResQ (C1 p f until') nx rid (waited f until' ⟨a ++ [x], now, done, all, did⟩ a x (stepsOf p x.1) s)) := by
  have e62 := Go.Ex.e62
  have hfl := (facts_small hF).1
  have hsl := (spansOf_small hF s.2.1).1
  have hst := hx.st
  have hws : IntKind.i64.wrap (x.2.1 + 1) = x.2.1 + 1 := IntWalk.i64_in _ (by omega)
  have hltr := hR.lt
  have hlti := hR.tp.lt
  generalize hh : upd h nx (some ⟨0, 0, stepV s, none⟩) = h1
  have hfr : ∀ j, j < nx → h1 j = h j := fun j hj => by rw [← hh]; simp [upd]; omega
  have hs1 : h1 nx = some ⟨0, 0, stepV s, none⟩ := by rw [← hh]; simp
  have hR1 := hR.mono (Nat.le_succ nx) hfr
  have r1 := hR1.r
  have hb1 := hR1.tp.hb
  obtain ⟨g0, g1, g2, g3⟩ := hR1.tp.get
  simp only [C1] at r1
  have nr : nx ≠ rid := by omega
  have ni : nx ≠ id := by omega
  simp only [stepV] at hs1
  have hge : (since (spansOf f s.2.1) now).2 = true → now ≤ (since (spansOf f s.2.1) now).1 := since_ge
  refine SEx.of hm h121 (of_decide_eq_true rfl) ?_
  unfold c121
  simp -dsimp [V.storable, V.cells]
  rw [hh]
  refine shq_ex (top_ok hR1 ha) ?_
  rintro v rfl
  simp -dsimp [hb1, g2, r1, hs1]
  by_cases k3 : s.1 = 3
  · by_cases ov : x.2.2 < now
    · -- over: goes on behind the label
      simp -dsimp [k3, ov, hs1]
      refine shr_ex (label_ok hR1 ha hp hx.pr hl s.2.2.1) ?_
      intro v h' nx' hq
      simp -dsimp
      refine res_on ?_ hq (Nat.le_succ nx)
      rw [waited_rest (fun q1 q2 q3 => by have := hge q2; omega) (by omega), if_pos k3, if_neg (by omega), if_neg (by omega)]
    · simp -dsimp [k3, ov, r1, hs1]
      refine call_one (spans_ok f s.2.1 (by omega)) (okRes_of (by simp)) ?_
      simp -dsimp [r1]
      refine call_one (since_ok _ _ (by omega)) (okRes_of (by simp)) ?_
      simp -dsimp
      by_cases A : (since (spansOf f s.2.1) now).2 = true ∧ (since (spansOf f s.2.1) now).1 ≤ x.2.2
      · -- the fact comes
        simp -dsimp [A.1, A.2]
        by_cases u : (since (spansOf f s.2.1) now).1 ≤ until'
        · refine shr_ex (pass_ok hR1 _) ?_
          rintro v h' nx' ⟨rfl, rfl, q3, q4, q5⟩
          have hR2 := q5 u
          have hb2 := hR2.tp.hb
          simp -dsimp [u, hb2, g1, hws]
          refine shr_ex (on_ok hR2 ha _) ?_
          intro v h' nx' hq
          simp -dsimp
          exact res_on (waited_fact k3 A.1 A.2 u) hq (Nat.le_succ nx)
        · refine shr_ex (pass_ok hR1 _) ?_
          rintro v h' nx' ⟨rfl, rfl, q3, q4, q5⟩
          have e := q4 (by omega)
          subst e
          simp -dsimp [u]
          exact res_stop (waited_fact_stop k3 A.1 A.2 (by omega)) hR1 (Nat.le_succ nx)
      · refine wantT_of ?_ ?_ <;> intro q <;> simp -dsimp [q]
        all_goals (try have A' : ¬ (since (spansOf f s.2.1) now).1 ≤ x.2.2 := fun q2 => A ⟨q, q2⟩)
        all_goals (try simp -dsimp [A'])
        all_goals
          by_cases u : x.2.2 ≤ until'
          · refine shr_ex (pass_ok hR1 _) ?_
            rintro v h' nx' ⟨rfl, rfl, q3, q4, q5⟩
            have hR2 := q5 u
            have hs2 : h' nx = h1 nx := q3 nx nr
            rw [hs1] at hs2
            simp -dsimp [u, hs2, k3]
            refine shr_ex (label_ok hR2 ha hp hx.pr hl s.2.2.1) ?_
            intro v h' nx' hq
            simp -dsimp
            refine res_on ?_ hq (Nat.le_succ nx)
            rw [waited_rest (fun q1 q2 q3 => A ⟨q2, q3⟩) u, if_pos k3]
          · refine shr_ex (pass_ok hR1 _) ?_
            rintro v h' nx' ⟨rfl, rfl, q3, q4, q5⟩
            have e := q4 (by omega)
            subst e
            simp -dsimp [u]
            exact res_stop (waited_rest_stop (fun q1 q2 q3 => A ⟨q2, q3⟩) (by omega)) hR1 (Nat.le_succ nx)
  · by_cases ov : x.2.2 < now
    · simp -dsimp [k3, ov, hs1, hb1, g1, hws]
      refine shr_ex (on_ok hR1 ha _) ?_
      intro v h' nx' hq
      simp -dsimp
      refine res_on ?_ hq (Nat.le_succ nx)
      rw [waited_rest (fun q1 q2 q3 => k3 q1) (by omega), if_neg k3, if_neg (by omega), if_neg (by omega)]
    · simp -dsimp [k3, ov, r1, hs1]
      by_cases u : x.2.2 ≤ until'
      · refine shr_ex (pass_ok hR1 _) ?_
        rintro v h' nx' ⟨rfl, rfl, q3, q4, q5⟩
        have hR2 := q5 u
        have hb2 := hR2.tp.hb
        have hs2 : h' nx = h1 nx := q3 nx nr
        rw [hs1] at hs2
        simp -dsimp [u, hs2, k3, hb2, g1, hws]
        refine shr_ex (on_ok hR2 ha _) ?_
        intro v h' nx' hq
        simp -dsimp
        refine res_on ?_ hq (Nat.le_succ nx)
        rw [waited_rest (fun q1 q2 q3 => k3 q1) u, if_neg k3]
      · refine shr_ex (pass_ok hR1 _) ?_
        rintro v h' nx' ⟨rfl, rfl, q3, q4, q5⟩
        have e := q4 (by omega)
        subst e
        simp -dsimp [u]
        exact res_stop (waited_rest_stop (fun q1 q2 q3 => k3 q1) (by omega)) hR1 (Nat.le_succ nx)
end
end Go.Proofs.P6
