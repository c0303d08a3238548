/- Go of the reference. -/
import Derived.Test.YtaegjihmpgdfcaaP6ta
set_option linter.unusedVariables false
set_option linter.unusedSimpArgs false
set_option maxRecDepth 10000
set_option maxHeartbeats 16000000
namespace Go.Proofs.P6
open Go.Ex
attribute [-simp] V.cells V.storable
/-- The loop's state. -/
def GI2 (p : List Prc) (f : List Fact) (until' : Int) (o : Out) (rid n : Nat) (t : St) : Prop := ∃ m, n = mu m ∧ Ok p until' m ∧ Runs p f until' m o ∧ t.t 16 = .pt rid 0 0 ∧ t.t 0 = .ro p.length (fl procCd p) ∧ t.t 4 = .int .i64 until' ∧ Rs (C2 p f) t.h t.nx rid m
theorem GoRef_ok (p : List Prc) (s : List Place) (f : List Fact) (from' until' : Int) (hok : ∀ x ∈ p, procOk x) (hl : p.length < 2 ^ 62) (hfo : ∀ x ∈ f, x.1.length < 2 ^ 62) :
    OkF Try.prog 26 [.ro p.length (fl procCd p), .ro s.length (fl placeCd s), .ro f.length (fl factCd f), .int .i64 from', .int .i64 until'] (outV (goE p s f from' until'), []) := by
  have e62 := Go.Ex.e62
  have e47 := Go.Ex.e47
  have nz : ∀ e : Int, e ≠ 0 → goErr p s f from' until' = e → outV (goE p s f from' until') = .tup [.ro 0 [], .ro 0 [], .int .i64 0, .int .i64 e] := fun e he h => by
    rw [goE_err h he]; rfl
  refine OkF.W0 hm h26 (of_decide_eq_true rfl) ?_
  unfold c26
  simp -dsimp
  refine call_int (CheckPlacesRef_ok p s hok hl) ?_
  simp -dsimp
  refine condK_of ?_ ?_ <;> intro q1 <;> simp -dsimp
  · have q1' : placesE p s ≠ 0 := by simpa using q1
    rw [nz _ q1' (by unfold goErr; rw [if_pos q1'])]
  have q1' : ¬ placesE p s ≠ 0 := by simpa using q1
  refine call_int (factsRef_ok f hfo) ?_
  simp -dsimp
  refine condK_of ?_ ?_ <;> intro q2 <;> simp -dsimp
  · have q2' : factsE f ≠ 0 := by simpa using q2
    rw [nz _ q2' (by unfold goErr; rw [if_neg q1', if_pos q2'])]
  have q2' : ¬ factsE f ≠ 0 := by simpa using q2
  refine call_bool (moment_ok from') ?_
  simp -dsimp
  have q0 : goErr p s f from' until' = if !(momB from' && momB until') then 1 else if until' < from' then 8 else 0 := by unfold goErr; rw [if_neg q1', if_neg q2']
  by_cases m1 : momB from' = true
  case neg =>
    have m1' : momB from' = false := by simpa using m1
    simp -dsimp [m1']
    rw [nz 1 (by decide) (by rw [q0, m1']; rfl)]
  simp -dsimp [m1]
  refine call_bool (moment_ok until') ?_
  simp -dsimp
  by_cases m2 : momB until' = true
  case neg =>
    have m2' : momB until' = false := by simpa using m2
    simp -dsimp [m2']
    rw [nz 1 (by decide) (by rw [q0, m1, m2']; rfl)]
  simp -dsimp [m2]
  by_cases lt : until' < from'
  · simp -dsimp [lt]
    rw [nz 8 (by decide) (by rw [q0, m1, m2]; simp [lt])]
  have hE : goErr p s f from' until' = 0 := by rw [q0, m1, m2]; simp; omega
  obtain ⟨hg, hF, hO, hP⟩ := ok0 hE
  have hrun := goE_run hE
  generalize goE p s f from' until' = o at hrun
  have hp' : p.length < 2 ^ 62 := hl
  have hlen := hO.len
  simp only [m0] at hlen
  have hsrc : ∀ h, srcA h 3 (.ro s.length (fl placeCd s)) = some (s.length, fl placeCd s) := fun h => by
    rw [src_ro, if_pos (by rw [flat_len, place_sz])]
  simp -dsimp [lt, fillS, hsrc, V.cells, V.storable]
  refine app_acc (d := placeCd) (bytes := 32) (l := []) (l' := s) (Acc.nil _ _) rfl rfl (by simp only [List.length_nil]; omega) (by simp only [List.length_nil]; omega) ?_
  intro pv h1 nx1 hA hnx hfr how
  rw [List.nil_append] at hA
  obtain ⟨hc, hst⟩ := acc_st hA
  have r1 := hfr 0 (by omega) (by simp [ownOf])
  simp -dsimp at r1
  simp -dsimp [r1, hc, hst]
  generalize hh2 : upd h1 0 _ = h2
  have hfr2 : ∀ j, j ≠ 0 → h2 j = h1 j := fun j hj => by rw [← hh2]; simp [hj]
  have hop : ∀ j, ownOf pv = some j → j ≠ 0 := fun j hj => by
    rcases how j hj with q | q
    · simp [ownOf] at q
    · omega
  obtain ⟨rid0, hrid⟩ : ∃ r : Nat, r = 0 := ⟨0, rfl⟩
  refine loop_dec (GI2 p f until' o rid0) (mu (m0 s from')) ?_ (fun n t hI => ?_)
  · subst hrid
    refine ⟨m0 s from', rfl, hO, hrun, by simp -dsimp, by simp -dsimp, by simp -dsimp, pv, .ns, by rw [← hh2]; simp -dsimp [C2, m0], by simp -dsimp; omega, ?_, Acc.nil _ _, fun q => hop 0 q rfl, by simp [ownOf], by simp [ownOf]⟩
    simp -dsimp [m0]
    exact hA.keep (Nat.le_refl _) fun j _ hj => hfr2 j (hop j hj)
  · obtain ⟨m, hmu, hOk, hR, i16, i0, i4, hS⟩ := hI
    obtain ⟨pl, now, done, all, did⟩ := m
    have hS' := hS
    obtain ⟨pv, dv, r1, r2, r3, r4, r5, r6, r7⟩ := hS'
    have hln := r3.len
    simp only [C2] at r1
    simp only at hln
    unfold l26_0
    simp -dsimp [i16, r1, hln]
    rcases List.eq_nil_or_concat pl with e | ⟨a, x, e⟩
    · subst e
      simp -dsimp [i16, r1]
      have ho := hR.nil rfl
      subst ho
      have hx := r4.ex1
      simp [hx, outV, fl_nil]
    · rw [List.concat_eq_append] at e
      subst e
      have h0 : (0 : Int) < ((a ++ [x]).length : Int) := by simp
      obtain ⟨pw, dw, id, ver, off, cells, hRn⟩ := hS.open rfl
      have hx : PF p x := hOk.pl x (by simp)
      have hlen := hOk.len
      have hall := hOk.all
      have hdone := hOk.done
      have hnow := hOk.now
      have hdid := hOk.did
      simp only [List.length_append, List.length_singleton] at hlen hall hdone hnow hdid
      have ha : a.length < 2 ^ 62 := by omega
      have hl := hg.steps_le x.1
      have hst := hx.st
      have hwl := wlen ha
      have r := hRn.r
      simp only [C2] at r
      have hb := hRn.tp.hb
      obtain ⟨g0, g1, g2, g3⟩ := hRn.tp.get
      have hlw := hRn.tp.ln
      have hiw := fun (K : V → List Nat → Prop) => hRn.tp.ia (kk := .i64) (K := K)
      obtain ⟨pv', pi, po1, po2, po3, po4⟩ := Acc.popped hRn.tp.acc
      have hpi : pi = id := by
        have := hRn.tp.own
        rw [po1] at this
        injection this
      obtain ⟨pr, hpr, hpn, hpo⟩ := stepsOf_get hx.pr
      have hia : ∀ h K, iaddrK h (.ro p.length (fl procCd p)) (.int .i64 (prI p x.1)) 2 K ⟨⟩ = K (.rp (fl procCd p) ((prI p x.1).toNat * 2)) [] := fun h K => by
        have := proc_ia (h := h) (kk := .i64) (K := K) hpr
        rw [show ((prI p x.1).toNat : Int) = prI p x.1 by have := hx.pr; omega] at this
        exact this
      have hinv := hR.inv rfl
      simp -dsimp [h0, i16, i0, r, hlw, hwl, hiw, hb, g0]
      refine call_int (procOf_ok p x.1 hp') ?_
      simp -dsimp [hia, proc_l1 hpr, hb, g1, i16]
      by_cases hE : x.2.1 = (pr.2.length : Int)
      · -- it ends
        obtain ⟨hc, hs⟩ := acc_st po3
        simp -dsimp [hE, i16, r, hlw, hwl, po4, hc, hs]
        have hst0 : stepR p f until' ⟨a ++ [x], now, done, all, did⟩ a x = .go ⟨a, now, done, all, did⟩ := stepR_none (List.getElem?_eq_none (by rw [hpo]; omega))
        rw [hst0] at hinv
        obtain ⟨hOk', hlt⟩ := hOk.step hg rfl hst0
        refine ⟨_, by rw [hmu]; exact hlt, ⟨a, now, done, all, did⟩, rfl, hOk', hinv, by simp -dsimp [i16], by simp -dsimp [i0], by simp -dsimp [i4], pv', dw, by simp -dsimp [C2], hRn.lt, po3.keep (Nat.le_refl _) (fun j _ hj => ?_), hRn.dd.keep (Nat.le_refl _) (fun j _ hj => ?_), fun q => ?_, hRn.n2, fun j hj => ?_⟩
        · rw [po2, hpi] at hj
          injection hj with hj
          have := hRn.n1
          simp only [upd]
          rw [if_neg (by omega)]
        · have : j ≠ rid0 := fun q => hRn.n2 (by rw [hj, q])
          simp only [upd]
          rw [if_neg this]
        · rw [po2, hpi] at q
          injection q with q
          exact hRn.n1 q
        · rw [po2, hpi] at hj
          injection hj with hj
          rw [← hj]
          exact hRn.n3
      · have hlt : x.2.1.toNat < (stepsOf p x.1).length := by rw [hpo] at hst ⊢; omega
        have hgs : (stepsOf p x.1)[x.2.1.toNat]? = some (stepsOf p x.1)[x.2.1.toNat] := List.getElem?_eq_getElem hlt
        generalize (stepsOf p x.1)[x.2.1.toNat] = s' at hgs
        have hgs2 : pr.2[x.2.1.toNat]? = some s' := by rw [← hpo]; exact hgs
        have hia2 : ∀ h K, iaddrK h (.ro pr.2.length (fl stepCd pr.2)) (.int .i64 x.2.1) 5 K ⟨⟩ = K (.rp (fl stepCd pr.2) (x.2.1.toNat * 5)) [] := fun h K => by
          have := step_ia (h := h) (kk := .i64) (K := K) hgs2
          rw [show ((x.2.1.toNat : Nat) : Int) = x.2.1 by omega] at this
          exact this
        have hltr := hRn.lt
        have hlti := hRn.tp.lt
        have ni : ¬ id = t.nx := by omega
        have nr : ¬ rid0 = t.nx := by omega
        have sl : (stepV s').length = 5 := rfl
        simp -dsimp [hE, hb, g1, hia2, step_ld hgs2, ni, sl]
        generalize hh1 : upd (upd t.h t.nx _) t.nx _ = h3
        have hs1 : h3 t.nx = some ⟨0, 0, stepV s', none⟩ := by rw [← hh1]; simp [stepV]
        have hfr1 : ∀ j, j < t.nx → h3 j = t.h j := fun j hj => by rw [← hh1]; simp [show ¬ j = t.nx by omega]
        have hR1 := hRn.mono (Nat.le_succ t.nx) hfr1
        have r1 := hR1.r
        have hb1 := hR1.tp.hb
        simp only [C2] at r1
        have hs1' := hs1
        simp only [stepV] at hs1'
        simp -dsimp [hb1, g2]
        by_cases hw : 0 ≤ x.2.2
        · have hk : s'.1 = 2 ∨ s'.1 = 3 := by
            have := hx.wt hw
            unfold kindAt at this
            rw [hgs] at this
            simpa [waitsB] using this
          simp -dsimp [hw, hs1', i16, i4]
          refine shr_ex (waitedRef_ok hR1 hp' hF hx hl ⟨hnow.1, hnow.2.1⟩ s' hk hw) ?_
          rintro v h' nx' ⟨hq1, hq2⟩
          have hst0 := stepR_wait (f := f) (until' := until') (m := ⟨a ++ [x], now, done, all, did⟩) (a := a) hgs hw
          rw [← hst0] at hq2
          cases hst : stepR p f until' ⟨a ++ [x], now, done, all, did⟩ a x with
          | go m' =>
            rw [hst] at hq2 hinv
            obtain ⟨rfl, hRs⟩ := hq2
            obtain ⟨hOk', hlt⟩ := hOk.step hg rfl hst
            simp -dsimp
            exact ⟨_, by rw [hmu]; exact hlt, m', rfl, hOk', hinv, by simp -dsimp [i16], by simp -dsimp [i0], by simp -dsimp [i4], hRs⟩
          | stop m' =>
            rw [hst] at hq2 hinv
            obtain ⟨rfl, pv2, dv2, u1, u2, u3, u4, u5, u6, u7⟩ := hq2
            simp only at hinv
            subst hinv
            simp only [C2] at u1
            have hx3 := u3.ex1
            have hx4 := u4.ex1
            simp -dsimp [i16, i4, u1]
            simp [hx3, hx4, outV]
          | err e => rw [hst] at hq2; exact hq2.elim
        · have hwd : IntKind.i64.wrap (done + 1) = done + 1 := IntWalk.i64_in _ (by omega)
          have hwa : IntKind.i64.wrap (all + 1) = all + 1 := IntWalk.i64_in _ (by omega)
          have err : ∀ e, stepR p f until' ⟨a ++ [x], now, done, all, did⟩ a x = .err e → outV o = .tup [.ro 0 [], .ro 0 [], .int .i64 0, .int .i64 e] := fun e he => by
            rw [he] at hinv
            simp only at hinv
            rw [hinv]
            rfl
          simp -dsimp [hw, i16, r1, hwd]
          by_cases d5 : 5000 < done + 1
          · simp -dsimp [d5]
            rw [err 17 (stepR_e17 hgs hw d5)]
          simp -dsimp [d5, i16, hwa]
          by_cases a2 : 200000 < all + 1
          · simp -dsimp [a2]
            rw [err 2 (stepR_e2 hgs hw d5 a2)]
          have n1 : ¬ id = rid0 := hRn.n1
          have nr' : ¬ t.nx = rid0 := fun q => nr q.symm
          simp -dsimp [a2, i16, nr', hs1']
          generalize hh2 : upd (upd h3 rid0 _) rid0 _ = h4
          have hfr2 : ∀ j, j ≠ rid0 → h4 j = h3 j := fun j hj => by rw [← hh2]; simp [hj]
          have hR2 : Rn (C2 p f) h4 (t.nx + 1) rid0 a x now (done + 1) (all + 1) did pw dw id ver off cells := hR1.fr (Nat.le_refl _) (by rw [← hh2]; simp [C2]) (fun j _ hj => hfr2 j hj)
          have hu : x.2.2 = -1 := by have := hx.un; omega
          refine shr_ex (stepRef_ok hR2 hg hF hx hu ⟨hnow.1, by omega⟩ hdid (by omega) hgs) ?_
          rintro v h' nx' ⟨hq1, hq2⟩
          have tick : M.tick ⟨a ++ [x], now, done, all, did⟩ = ⟨a ++ [x], now, done + 1, all + 1, did⟩ := rfl
          generalize hact : act f ⟨a ++ [x], now, done + 1, all + 1, did⟩ a x (stepsOf p x.1) s' = m' at hq2
          have hq3 := hq2
          obtain ⟨pv2, dv2, u1, u2, u3, u4, u5, u6, u7⟩ := hq2
          simp only [C2] at u1
          have hl2 := u4.len
          simp -dsimp [i16, u1, hl2]
          by_cases d6 : 5000 < m'.did.length
          · have d6' : (5000 : Int) < (m'.did.length : Int) := by omega
            simp -dsimp [d6']
            rw [err 2 (stepR_did hgs hw d5 a2 (by rw [tick, hact]; exact d6))]
          · have d6' : ¬ (5000 : Int) < (m'.did.length : Int) := by omega
            simp -dsimp [d6']
            have hst0 : stepR p f until' ⟨a ++ [x], now, done, all, did⟩ a x = .go m' := stepR_act hgs hw d5 a2 (by rw [tick]; exact hact) d6
            rw [hst0] at hinv
            obtain ⟨hOk', hlt'⟩ := hOk.step hg rfl hst0
            exact ⟨_, by rw [hmu]; exact hlt', m', rfl, hOk', hinv, by simp -dsimp [i16], by simp -dsimp [i0], by simp -dsimp [i4], hq3⟩
end Go.Proofs.P6
