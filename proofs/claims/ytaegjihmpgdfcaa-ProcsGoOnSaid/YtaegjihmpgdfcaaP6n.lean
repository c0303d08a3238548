/- The runner steps. -/
import Derived.Test.YtaegjihmpgdfcaaP6m
set_option linter.unusedVariables false
set_option linter.unusedSimpArgs false
set_option maxRecDepth 10000
set_option maxHeartbeats 16000000
namespace Go.Proofs.P6
open Go.Ex
section
variable {p : List Prc} {f : List Fact} {until' : Int} {m : M} {a : List Place} {x : Place} {s : Step}
theorem stepR_none (h : (stepsOf p x.1)[x.2.1.toNat]? = none) : stepR p f until' m a x = .go { m with pl := a } := by
  unfold stepR; rw [h]
theorem stepR_wait (h : (stepsOf p x.1)[x.2.1.toNat]? = some s) (h0 : 0 ≤ x.2.2) : stepR p f until' m a x = waited f until' m a x (stepsOf p x.1) s := by
  unfold stepR; rw [h]; simp only; rw [if_pos h0]
theorem stepR_e17 (h : (stepsOf p x.1)[x.2.1.toNat]? = some s) (h0 : ¬ 0 ≤ x.2.2) (h1 : 5000 < m.done + 1) : stepR p f until' m a x = .err 17 := by
  unfold stepR; rw [h]; simp only; rw [if_neg h0, if_pos h1]
theorem stepR_e2 (h : (stepsOf p x.1)[x.2.1.toNat]? = some s) (h0 : ¬ 0 ≤ x.2.2) (h1 : ¬ 5000 < m.done + 1) (h2 : 200000 < m.all + 1) : stepR p f until' m a x = .err 2 := by
  unfold stepR; rw [h]; simp only; rw [if_neg h0, if_neg h1, if_pos h2]
theorem stepR_did (h : (stepsOf p x.1)[x.2.1.toNat]? = some s) (h0 : ¬ 0 ≤ x.2.2) (h1 : ¬ 5000 < m.done + 1) (h2 : ¬ 200000 < m.all + 1) (h3 : 5000 < (act f m.tick a x (stepsOf p x.1) s).did.length) : stepR p f until' m a x = .err 2 := by
  unfold stepR; rw [h]; simp only; rw [if_neg h0, if_neg h1, if_neg h2, if_pos h3]
theorem stepR_act {m' : M} (h : (stepsOf p x.1)[x.2.1.toNat]? = some s) (h0 : ¬ 0 ≤ x.2.2) (h1 : ¬ 5000 < m.done + 1) (h2 : ¬ 200000 < m.all + 1) (e : act f m.tick a x (stepsOf p x.1) s = m') (h3 : ¬ 5000 < m'.did.length) : stepR p f until' m a x = .go m' := by
  subst e
  unfold stepR; rw [h]; simp only; rw [if_neg h0, if_neg h1, if_neg h2, if_neg h3]
end
/-- What a round of the runner answers. -/
def StepQ (C : V → V → Int → Int → Int → List V) (p : List Prc) (f : List Fact) (until' : Int) (nx rid : Nat) (r : Res) (v : V) (h' : Hp) (nx' : Nat) : Prop := nx ≤ nx' ∧ match r with
  | .go m' => v = .tup [.bool true, .int .i64 0] ∧ ∃ m'', (m'' = m' ∨ ∃ a' x', m'.pl = a' ++ [x'] ∧ stepR p f until' m' a' x' = .go m'') ∧ Rs C h' nx' rid m''
  | .stop m' => v = .tup [.bool false, .int .i64 0] ∧ Rs C h' nx' rid m'
  | .err e => v = .tup [.bool false, .int .i64 e]
section
variable {p : List Prc} {f : List Fact} {until' : Int} {h : Hp} {nx rid : Nat} {a : List Place} {x : Place} {now done all : Int} {did : List Did} {pv dv : V} {id ver off : Nat} {cells : List V}
theorem Acc.popped {h : Hp} {nx : Nat} {v : V} (hA : Acc placeCd h nx v (a ++ [x])) : ∃ v' i, ownOf v = some i ∧ ownOf v' = some i ∧ Acc placeCd h nx v' a ∧ ∀ kk nx' K, slcK false v none (some (.int kk (a.length : Nat))) 3 h nx' K ⟨⟩ = K v' h nx' (some [i]) (some []) := by
  have := hA.init (n := a.length) (by simp) (by simp)
  rwa [List.take_left' rfl] at this
theorem acc_st {α : Type} {d : Cd α} {l : List α} {h : Hp} {nx : Nat} {v : V} (hA : Acc d h nx v l) : v.cells = [v] ∧ v.storable = true := by
  rcases hA.isV with rfl | ⟨_, _, _, _, rfl⟩ <;> exact ⟨rfl, rfl⟩
attribute [-simp] V.cells V.storable
theorem disj1 {a b : Nat} : disj (some [a]) (some [b]) = decide (a ≠ b) := by
  by_cases q : a = b <;> simp [disj, q, eq_comm]
theorem id_pt {i v o : Nat} : idOf (.pt i v o) = [i] := rfl
@[simp] theorem st_int {k : IntKind} {n : Int} : (V.int k n).storable = true := rfl
@[simp] theorem st_str {l : List UInt8} : (V.str l).storable = true := rfl
@[simp] theorem st_bool {b : Bool} : (V.bool b).storable = true := rfl
@[simp] theorem st_agg {l : List V} : (V.agg l).storable = true := rfl
@[simp] theorem cl_int {k : IntKind} {n : Int} : (V.int k n).cells = [.int k n] := rfl
@[simp] theorem cl_str {l : List UInt8} : (V.str l).cells = [.str l] := rfl
@[simp] theorem cl_bool {b : Bool} : (V.bool b).cells = [.bool b] := rfl
@[simp] theorem cl_agg {l : List V} : (V.agg l).cells = l := rfl
theorem step_ok (hR : Rn (C1 p f until') h nx rid a x now done all did pv dv id ver off cells) (hg : GP p) (hF : factsE f = 0) (ho : Ok p until' ⟨a ++ [x], now, done, all, did⟩) :
    SEx Try.prog 71 [.pt rid 0 0] h nx (StepQ (C1 p f until') p f until' nx rid (stepR p f until' ⟨a ++ [x], now, done, all, did⟩ a x)) := by
  have e62 := Go.Ex.e62
  have e47 := Go.Ex.e47
  have hx : PF p x := ho.pl x (by simp)
  have hlen := ho.len
  have hall := ho.all
  have hdone := ho.done
  have hnow := ho.now
  have hdid := ho.did
  simp only [List.length_append, List.length_singleton] at hlen hall hdone hnow hdid
  have ha : a.length < 2 ^ 62 := by omega
  have hp : p.length < 2 ^ 62 := by have := hg.len; omega
  have hl := hg.steps_le x.1
  have hst := hx.st
  have hwl := wlen ha
  have r := hR.r
  simp only [C1] at r
  have hb := hR.tp.hb
  obtain ⟨g0, g1, g2, g3⟩ := hR.tp.get
  have hln := hR.tp.ln
  obtain ⟨pv', pi, po1, po2, po3, po4⟩ := Acc.popped hR.tp.acc
  have hpi : pi = id := by
    have := hR.tp.own
    rw [po1] at this
    injection this
  have own1 : ∀ j, ownOf pv' = some j → j ≠ rid := fun j hj => by
    rw [po2] at hj
    injection hj with hj
    have := hR.n1
    rw [← hj, hpi]
    exact this
  refine SEx.of hm h71 (of_decide_eq_true rfl) ?_
  unfold c71
  simp -dsimp
  refine shq_ex (top_ok hR ha) ?_
  rintro v rfl
  simp -dsimp
  refine shq_ex (steps_ok hR ha hp hx.pr) ?_
  rintro v rfl
  simp -dsimp [hb, g1]
  by_cases hE : x.2.1 = (stepsOf p x.1).length
  · -- it ends
    have hnone : (stepsOf p x.1)[x.2.1.toNat]? = none := List.getElem?_eq_none (by omega)
    obtain ⟨hc, hs⟩ := acc_st po3
    simp -dsimp [hE, r, hln, hwl, po4, hc, hs, putL]
    refine ⟨Nat.le_refl _, ?_⟩
    rw [stepR_none hnone]
    have hlt := hR.lt
    refine ⟨rfl, _, .inl rfl, pv', dv, by simp [C1], hlt, po3.keep (Nat.le_refl _) (fun j _ hj => by simp [own1 j hj]), hR.dd.keep (Nat.le_refl _) (fun j _ hj => ?_), fun q => own1 _ q rfl, hR.n2, fun j hj => ?_⟩
    · have : j ≠ rid := fun q => hR.n2 (by rw [hj, q])
      simp [this]
    · rw [po2] at hj
      injection hj with hj
      rw [← hj, hpi]
      exact hR.n3
  · have hlt : x.2.1.toNat < (stepsOf p x.1).length := by omega
    have hgs : (stepsOf p x.1)[x.2.1.toNat]? = some (stepsOf p x.1)[x.2.1.toNat] := List.getElem?_eq_getElem hlt
    generalize (stepsOf p x.1)[x.2.1.toNat] = s at hgs
    have hia : ∀ h K, iaddrK h (.ro (stepsOf p x.1).length (fl stepCd (stepsOf p x.1))) (.int .i64 x.2.1) 5 K ⟨⟩ = K (.rp (fl stepCd (stepsOf p x.1)) (x.2.1.toNat * 5)) [] := fun h K => by
      have := step_ia (h := h) (kk := .i64) (K := K) hgs
      rw [show ((x.2.1.toNat : Nat) : Int) = x.2.1 by omega] at this
      exact this
    have hE' : ¬ x.2.1 = ((stepsOf p x.1).length : Int) := hE
    have hsf := hg.sf hx.pr (List.mem_of_getElem? hgs)
    have hltr := hR.lt
    have hlti := hR.tp.lt
    have ni : ¬ id = nx := by omega
    have nr : ¬ rid = nx := by omega
    have sl : (stepV s).length = 5 := rfl
    simp -dsimp [hE', hb, g1, hia, step_ld hgs, ni, sl]
    generalize hh : upd (upd h nx _) nx _ = h1
    have hs1 : h1 nx = some ⟨0, 0, stepV s, none⟩ := by rw [← hh]; simp [stepV]
    have hfr : ∀ j, j < nx → h1 j = h j := fun j hj => by rw [← hh]; simp [show ¬ j = nx by omega]
    have hR1 := hR.mono (Nat.le_succ nx) hfr
    have r1 := hR1.r
    have hb1 := hR1.tp.hb
    simp only [C1] at r1
    simp -dsimp [hb1, g2]
    by_cases hw : 0 ≤ x.2.2
    · -- it waits
      have hk : s.1 = 2 ∨ s.1 = 3 := by
        have := hx.wt hw
        unfold kindAt at this
        rw [hgs] at this
        simpa [waitsB] using this
      have hs1' := hs1
      simp only [stepV] at hs1'
      simp -dsimp [hw, hs1', show 5 ≤ (stepV s).length from Nat.le_refl 5]
      refine shr_ex (wait_ok hR1 ha hp hF hx hl hnow.2.1 s hk hw) ?_
      intro v h' nx' hq
      simp -dsimp
      rw [stepR_wait hgs hw]
      obtain ⟨hq1, hq2⟩ := hq
      generalize waited f until' ⟨a ++ [x], now, done, all, did⟩ a x (stepsOf p x.1) s = W at hq2
      refine ⟨Nat.le_of_succ_le hq1, ?_⟩
      cases W with
      | go m' => obtain ⟨rfl, hq3⟩ := hq2; exact ⟨rfl, _, .inl rfl, hq3⟩
      | stop m' => obtain ⟨rfl, hq3⟩ := hq2; exact ⟨rfl, hq3⟩
      | err e => exact hq2.elim
    · have hwd : IntKind.i64.wrap (done + 1) = done + 1 := IntWalk.i64_in _ (by omega)
      have hwa : IntKind.i64.wrap (all + 1) = all + 1 := IntWalk.i64_in _ (by omega)
      simp -dsimp [hw, r1, hwd]
      by_cases d5 : 5000 < done + 1
      · simp -dsimp [d5]
        rw [stepR_e17 hgs hw d5]
        exact ⟨Nat.le_succ nx, rfl⟩
      simp -dsimp [d5, hwa]
      by_cases a2 : 200000 < all + 1
      · simp -dsimp [a2]
        rw [stepR_e2 hgs hw d5 a2]
        exact ⟨Nat.le_succ nx, rfl⟩
      have hws : IntKind.i64.wrap (x.2.1 + 1) = x.2.1 + 1 := IntWalk.i64_in _ (by omega)
      have n1 : ¬ id = rid := hR.n1
      have nr' : ¬ nx = rid := fun q => nr q.symm
      have hs1' := hs1
      simp only [stepV] at hs1'
      simp -dsimp [a2, n1, hb1, g1, hws, nr', hs1']
      generalize hh2 : upd (upd h1 rid _) rid _ = h2
      have hfr2 : ∀ j, j ≠ rid → h2 j = h1 j := fun j hj => by rw [← hh2]; simp [hj]
      have hR2 : Rn (C1 p f until') h2 (nx + 1) rid a x now (done + 1) (all + 1) did pv dv id ver off cells := hR1.fr (Nat.le_refl _) (by rw [← hh2]; simp [C1]) (fun j _ hj => hfr2 j hj)
      have r2 := hR2.r
      have hb2 := hR2.tp.hb
      have hs2 : h2 nx = some ⟨0, 0, stepV s, none⟩ := by rw [hfr2 nx (fun q => nr q.symm)]; exact hs1
      simp only [C1] at r2
      simp only [stepV] at hs2
      have tick : M.tick ⟨a ++ [x], now, done, all, did⟩ = ⟨a ++ [x], now, done + 1, all + 1, did⟩ := rfl
      have fin : ∀ {y : Place} {h' : Hp} {nx' : Nat} {did' : List Did} {dv' : V} {cells' : List V}, act f ⟨a ++ [x], now, done + 1, all + 1, did⟩ a x (stepsOf p x.1) s = ⟨a ++ [y], now, done + 1, all + 1, did'⟩ → did'.length ≤ 5000 → nx ≤ nx' →
          Rn (C1 p f until') h' nx' rid a y now (done + 1) (all + 1) did' pv dv' id ver off cells' →
          StepQ (C1 p f until') p f until' nx rid (stepR p f until' ⟨a ++ [x], now, done, all, did⟩ a x) (.tup [.bool true, .int .i64 0]) h' nx' := by
        intro y h' nx' did' dv' cells' e hd hn hq
        rw [stepR_act (m' := ⟨a ++ [y], now, done + 1, all + 1, did'⟩) hgs hw d5 a2 (by rw [tick]; exact e) (by simp only; omega)]
        exact ⟨hn, rfl, _, .inl rfl, hq.close⟩
      have e4 : off + 2 + 1 ≤ cells.length := by omega
      have na1 : ¬ rid = nx + 1 := by omega
      have na2 : ¬ nx + 1 = rid := by omega
      by_cases k1 : s.1 = 1
      · simp -dsimp [k1, r2, hs2, fillS, fillA, na1, na2, disj1, id_pt]
        generalize hh3 : upd h2 (nx + 1) _ = h3
        have hfr3 : ∀ j, j < nx + 1 → h3 j = h2 j := fun j hj => by rw [← hh3]; simp [show ¬ j = nx + 1 by omega]
        have hR3 := hR2.mono (Nat.le_succ (nx + 1)) hfr3
        refine app_acc (l' := [(now, s.2.1)]) hR3.dd (by simp [fl, didCd]; rfl) rfl (by simp only [List.length_singleton]; omega) (by simp only [List.length_singleton]; omega) ?_
        intro dv' h4 nx4 hA hnx4 hfr4 how4
        obtain ⟨hc4, hs4⟩ := acc_st hA
        have r4 : h4 rid = some ⟨0, 0, C1 p f until' pv dv now (done + 1) (all + 1), none⟩ := by
          rw [hfr4 rid (by omega) hR3.n2]
          exact hR3.r
        simp only [C1] at r4
        have hl4 := hA.len
        have hwl4 : IntKind.i64.wrap ((did.length : Int) + 1) = (did.length : Int) + 1 := IntWalk.i64_in _ (by omega)
        simp only [List.length_append, List.length_singleton] at hl4
        simp -dsimp [r4, hc4, hs4, hl4]
        have hact : act f ⟨a ++ [x], now, done + 1, all + 1, did⟩ a x (stepsOf p x.1) s = ⟨a ++ [(x.1, x.2.1 + 1, -1)], now, done + 1, all + 1, did ++ [(now, s.2.1)]⟩ := by
          unfold act
          rw [if_pos k1]
        by_cases d6 : 5000 < did.length + 1
        · have d6' : (5000 : Int) < (did.length : Int) + 1 := by omega
          simp -dsimp [d6']
          rw [stepR_did hgs hw d5 a2 (by rw [tick, hact]; simpa using d6)]
          exact ⟨by omega, rfl⟩
        · have d6' : ¬ (5000 : Int) < (did.length : Int) + 1 := by omega
          simp -dsimp [d6']
          generalize hh5 : upd h4 rid _ = h5
          have hfr5 : ∀ j, j ≠ rid → h5 j = h4 j := fun j hj => by rw [← hh5]; simp [hj]
          have hRid : ownOf dv' ≠ some rid := fun q => by
            rcases how4 rid q with q | q
            · exact hR.n2 q
            · omega
          have hRi : ownOf dv' ≠ some id := fun q => by
            rcases how4 id q with q | q
            · exact hR.n3 q
            · omega
          have hR5 : Rn (C1 p f until') h5 nx4 rid a x now (done + 1) (all + 1) (did ++ [(now, s.2.1)]) pv dv' id ver off cells :=
            ⟨by rw [← hh5]; simp [C1], by omega, hR3.tp.mono hnx4 (by rw [hfr5 id n1, hfr4 id (by omega) hR3.n3]), hA.keep (Nat.le_refl _) (fun j _ hj => hfr5 j fun q => hRid (by rw [hj, q])), n1, hRid, hRi⟩
          refine shr_ex (on_ok hR5 ha _) ?_
          rintro v h' nx' ⟨rfl, cells', _, hq⟩
          simp -dsimp
          exact fin hact (by simp only [List.length_append, List.length_singleton]; omega) (by omega) hq
      simp -dsimp [k1]
      by_cases k23 : s.1 = 2 ∨ s.1 = 3
      · have hn := hsf.num k23
        have hwn : IntKind.i64.wrap (now + s.2.2.2.1) = now + s.2.2.2.1 := IntWalk.i64_in _ (by omega)
        have hT := hR2.tp.set (y := (x.1, x.2.1, now + s.2.2.2.1)) (j := 2) (u := .int .i64 (now + s.2.2.2.1)) (by omega) rfl
        have hR3 := hR2.up hT (Nat.le_refl _) (fun j hj hne => by simp [hne])
        have key := fin (y := (x.1, x.2.1, now + s.2.2.2.1)) (by unfold act; rw [if_neg k1, if_pos k23]; rfl) hdid (Nat.le_succ nx) hR3
        by_cases k2 : s.1 = 2
        · simp -dsimp [k2, r2, hs2, hwn, hb2, e4]
          exact key
        · have k3 : s.1 = 3 := by omega
          simp -dsimp [k3, r2, hs2, hwn, hb2, e4]
          exact key
      have k2 : ¬ s.1 = 2 := fun q => k23 (.inl q)
      have k3 : ¬ s.1 = 3 := fun q => k23 (.inr q)
      simp -dsimp [k2, k3]
      have hnext := fun (h' : Hp) (nx' : Nat) (cells' : List V) (e : act f ⟨a ++ [x], now, done + 1, all + 1, did⟩ a x (stepsOf p x.1) s = ⟨a ++ [(x.1, x.2.1 + 1, -1)], now, done + 1, all + 1, did⟩) => fin (h' := h') (nx' := nx') (cells' := cells') (dv' := dv) e hdid
      by_cases k4 : s.1 = 4
      · have hfl := (facts_small hF).1
        have hsl := (spansOf_small hF s.2.1).1
        simp -dsimp [k4, r2, hs2]
        refine call_bool (is_ok f s.2.1 now (by omega) (by omega)) ?_
        simp -dsimp [hs2]
        by_cases b : isF f s.2.1 now = s.2.2.2.2
        · simp -dsimp [b]
          refine shr_ex (on_ok hR2 ha _) ?_
          rintro v h' nx' ⟨rfl, cells', _, hq⟩
          simp -dsimp
          exact fin (by unfold act; rw [if_neg k1, if_neg k23, if_pos k4, if_neg (by simp [b])]; rfl) hdid (Nat.le_succ nx) hq
        · simp -dsimp [b, hs2]
          refine shr_ex (label_ok hR2 ha hp hx.pr hl s.2.2.1) ?_
          rintro v h' nx' ⟨rfl, cells', _, hq⟩
          simp -dsimp
          exact fin (by unfold act; rw [if_neg k1, if_neg k23, if_pos k4, if_pos (by simp [b])]; rfl) hdid (Nat.le_succ nx) hq
      simp -dsimp [k4]
      by_cases k5 : s.1 = 5
      · simp -dsimp [k5, hs2]
        refine shr_ex (label_ok hR2 ha hp hx.pr hl s.2.2.1) ?_
        rintro v h' nx' ⟨rfl, cells', _, hq⟩
        simp -dsimp
        exact fin (by unfold act; rw [if_neg k1, if_neg k23, if_neg k4, if_pos k5]; rfl) hdid (Nat.le_succ nx) hq
      simp -dsimp [k5]
      by_cases k8 : s.1 = 8
      · simp -dsimp [k8]
        refine shr_ex (on_ok hR2 ha _) ?_
        rintro v h' nx' ⟨rfl, cells', _, hq⟩
        simp -dsimp
        exact fin (by unfold act; rw [if_neg k1, if_neg k23, if_neg k4, if_neg k5, if_pos k8]; rfl) hdid (Nat.le_succ nx) hq
      simp -dsimp [k8]
      by_cases k6 : s.1 = 6
      · simp -dsimp [k6]
        refine shr_ex (on_ok hR2 ha _) ?_
        rintro v h' nx' ⟨rfl, cells', hf3, hq⟩
        have r3 := hq.r
        simp only [C1] at r3
        have hs3 : h' nx = h2 nx := hf3 nx (fun q => ni q.symm)
        rw [hs2] at hs3
        simp -dsimp [r3, hs3, fillS, fillA, na1, na2, disj1, id_pt]
        generalize hh4 : upd h' (nx + 1) _ = h4
        have hfr4 : ∀ j, j < nx + 1 → h4 j = h' j := fun j hj => by rw [← hh4]; simp [show ¬ j = nx + 1 by omega]
        have hR4 := hq.mono (Nat.le_succ (nx + 1)) hfr4
        have hA0 := hR4.tp.acc
        refine app_acc (l' := [(s.2.1, 0, -1)]) hA0 (by simp [fl, placeCd]; rfl) rfl (by simp only [List.length_singleton, List.length_append]; omega) (by simp only [List.length_singleton, List.length_append]; omega) ?_
        intro pv5 h5 nx5 hA hnx5 hfr5 how5
        obtain ⟨hc5, hs5⟩ := acc_st hA
        have op : ownOf pv = some id := hR.tp.own
        have r5 : h5 rid = some ⟨0, 0, C1 p f until' pv dv now (done + 1) (all + 1), none⟩ := by
          rw [hfr5 rid (by omega) (by rw [op]; intro q; injection q with q; exact n1 q)]
          exact hR4.r
        simp only [C1] at r5
        simp -dsimp [r5, hc5, hs5]
        have hact : act f ⟨a ++ [x], now, done + 1, all + 1, did⟩ a x (stepsOf p x.1) s = ⟨a ++ [(x.1, x.2.1 + 1, -1)] ++ [(s.2.1, 0, -1)], now, done + 1, all + 1, did⟩ := by
          unfold act
          rw [if_neg k1, if_neg k23, if_neg k4, if_neg k5, if_neg k8, if_pos k6]
        rw [stepR_act (m' := ⟨a ++ [(x.1, x.2.1 + 1, -1)] ++ [(s.2.1, 0, -1)], now, done + 1, all + 1, did⟩) hgs hw d5 a2 (by rw [tick]; exact hact) (by simp only; omega)]
        have op5 : ∀ j, ownOf pv5 = some j → j = id ∨ nx + 2 ≤ j := fun j hj => by
          rcases how5 j hj with q | q
          · rw [op] at q; injection q with q; exact .inl q.symm
          · exact .inr q
        refine ⟨by omega, rfl, _, .inl rfl, pv5, dv, by simp [C1], by omega, hA.keep (Nat.le_refl _) (fun j _ hj => ?_), hR4.dd.keep hnx5 (fun j hj ho => ?_), fun q => ?_, hR.n2, fun j hj => ?_⟩
        · have : ¬ j = rid := fun q => by rcases op5 j hj with z | z <;> omega
          simp [this]
        · have h1 : ¬ j = rid := fun q => hR.n2 (by rw [ho, q])
          simp only [upd, if_neg h1]
          exact hfr5 j hj (by rw [op]; intro q; injection q with q; exact hR.n3 (by rw [ho, q]))
        · rcases op5 rid q with z | z <;> omega
        · rcases op5 j hj with z | z
          · rw [z]; exact hR.n3
          · intro q
            have := hR.dd.own q
            omega
      simp -dsimp [k6]
      obtain ⟨pw, pj, pw1, pw2, pw3, pw4⟩ := Acc.popped hR2.tp.acc
      have hpj : pj = id := by
        have := hR2.tp.own
        rw [pw1] at this
        injection this
      obtain ⟨hc, hs⟩ := acc_st pw3
      simp -dsimp [r2, hln, hwl, pw4, hc, hs]
      have e : act f ⟨a ++ [x], now, done + 1, all + 1, did⟩ a x (stepsOf p x.1) s = ⟨a ++ [((x.1, ((stepsOf p x.1).length : Int), -1) : Place)], now, done + 1, all + 1, did⟩ := by
        unfold act
        rw [if_neg k1, if_neg k23, if_neg k4, if_neg k5, if_neg k8, if_neg k6]
        rfl
      rw [stepR_act (m' := ⟨a ++ [((x.1, ((stepsOf p x.1).length : Int), -1) : Place)], now, done + 1, all + 1, did⟩) hgs hw d5 a2 (by rw [tick]; exact e) (by simp only; omega)]
      refine ⟨Nat.le_succ nx, rfl, ⟨a, now, done + 1, all + 1, did⟩, .inr ⟨a, ((x.1, ((stepsOf p x.1).length : Int), -1) : Place), rfl, stepR_none (List.getElem?_eq_none (by simp))⟩, pw, dv, by simp [C1], by omega, pw3.keep (Nat.le_refl _) (fun j _ hj => ?_), hR2.dd.keep (Nat.le_refl _) (fun j _ hj => ?_), fun q => ?_, hR.n2, fun j hj => ?_⟩
      · rw [pw2, hpj] at hj
        injection hj with hj
        simp [← hj, n1]
      · have : j ≠ rid := fun q => hR.n2 (by rw [hj, q])
        simp [this]
      · rw [pw2, hpj] at q
        injection q with q
        exact n1 q
      · rw [pw2, hpj] at hj
        injection hj with hj
        rw [← hj]
        exact hR.n3
end
end Go.Proofs.P6
