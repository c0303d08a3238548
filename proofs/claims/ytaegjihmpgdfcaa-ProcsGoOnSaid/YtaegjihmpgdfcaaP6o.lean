/- Go of the program. -/
import Derived.Test.YtaegjihmpgdfcaaP6n
set_option linter.unusedVariables false
set_option linter.unusedSimpArgs false
set_option maxRecDepth 10000
set_option maxHeartbeats 8000000
namespace Go.Proofs.P6
open Go.Ex
def oneOf (b : Bool) : Int := if b = true then 0 else 1
theorem range1_ok (n lo hi : Int) : OkF Try.prog 69 [.int .i64 n, .int .i64 lo, .int .i64 hi] (.int .i64 (oneOf (decide (lo ≤ n) && decide (n ≤ hi))), []) := by
  refine OkF.W0 hm h69 (of_decide_eq_true rfl) ?_
  unfold c69
  simp -dsimp
  refine call_bool (In_ok n lo hi) ?_
  simp -dsimp
  refine condK_of ?_ ?_ <;> intro q <;> simp -dsimp [q]
  · simp [oneOf]; simp at q; omega
  · simp [oneOf]; simp at q; omega
/-- The first error. -/
def first4 (a b c d : Int) : Int := if a ≠ 0 then a else if b ≠ 0 then b else if c ≠ 0 then c else d
def firstE (l : List Int) (k : Nat) : Int := (l[k]?).getD 0
theorem firstL_ok (l : List Int) (hl : l.length < 2 ^ 62) : OkF Try.prog 67 [.ro l.length (fl (Cd.int .i64) l)] (.int .i64 (fe (firstE l) l.length), []) := by
  refine OkF.W0 hm h67 (of_decide_eq_true rfl) ?_
  unfold c67
  simp -dsimp
  refine for_lt l.length (fun k t => t.t 5 = .ro l.length (fl (Cd.int .i64) l) ∧ fe (firstE l) k = 0) rfl hl (by simp -dsimp [fe]) (by simp -dsimp) (by simp -dsimp) (fun k t hk hI hi hn => ?_) (fun t hI hi hn => ?_)
  · obtain ⟨i5, iu⟩ := hI
    have hg : l[k]? = some l[k] := List.getElem?_eq_getElem hk
    generalize l[k] = a at hg
    have hE : firstE l k = a := by simp [firstE, hg]
    have e1 : ∀ K, iaddrK t.h (.ro l.length (fl (Cd.int .i64) l)) (.int .i64 k) 1 K ⟨⟩ = K (.rp (fl (Cd.int .i64) l) k) [] := fun K => by
      have := iaddr_fl (d := Cd.int .i64) (n := 1) (kk := .i64) (h := t.h) (K := K) rfl (by decide) hg
      rwa [Nat.mul_one] at this
    have e2 : ∀ h, ldA h (.rp (fl (Cd.int .i64) l) k) none = some (.int .i64 a) := fun h => by
      have := ld_fl0 (d := Cd.int .i64) (n := 1) (h := h) rfl (by decide) hg
      rw [Nat.mul_one] at this
      exact this
    unfold k67_0
    simp -dsimp [i5, hi, hn, e1, e2]
    refine condK_of ?_ ?_ <;> intro q <;> simp -dsimp [q, i5, hi, hn]
    · rw [fe_stop iu (by rw [hE]; simpa using q) hk, hE]
    · exact fe_step iu (by rw [hE]; simpa using q)
  · obtain ⟨i5, iu⟩ := hI
    simp -dsimp [iu]
theorem first_ok (a b c d : Int) : OkF Try.prog 67 [.ro 4 [.int .i64 a, .int .i64 b, .int .i64 c, .int .i64 d]] (.int .i64 (first4 a b c d), []) := by
  have h := firstL_ok [a, b, c, d] (by simp)
  have e : fe (firstE [a, b, c, d]) 4 = first4 a b c d := by
    simp only [fe, firstE, first4]
    simp
    repeat' split
    all_goals simp_all
  have e' : fe (firstE [a, b, c, d]) [a, b, c, d].length = first4 a b c d := e
  rw [e'] at h
  exact h
theorem clone_em {f : Nat} {esz bytes : Nat} {zero : List V} (hf : compF Try.prog sh f = some (cloneC esz bytes zero, [2], 8)) : OkF Try.prog f [.ro 0 []] (.em, []) := by
  refine OkF.empty ?_ ?_
  · refine OkF.em hm hf (of_decide_eq_true rfl) ?_
    simp only [cloneC, wpA, Go.Ex.runN, want, stepI, opA, X.ev, ret0, Option.map_some, put, initT, upd]
    simp [upd, initT, resV, ret0, opA]
  · refine OkF.em hm hf (of_decide_eq_true rfl) ?_
    simp only [cloneC, wpA, Go.Ex.runN, want, stepI, opA, X.ev, ret0, Option.map_some, put, fillA, zeros, elems, initT, upd]
    simp [upd, initT, resV, ret0, fillA, zeros, elems, opA]
    exact ⟨0, 1, ⟨rfl, rfl⟩, _, rfl, rfl⟩
noncomputable def goErr (p : List Prc) (s : List Place) (f : List Fact) (from' until' : Int) : Int := if placesE p s ≠ 0 then placesE p s else if factsE f ≠ 0 then factsE f else if !(momB from' && momB until') then 1 else if until' < from' then 8 else 0
def m0 (s : List Place) (from' : Int) : M := ⟨s, from', 0, 0, []⟩
open Classical in
noncomputable def goE (p : List Prc) (s : List Place) (f : List Fact) (from' until' : Int) : Out := if goErr p s f from' until' ≠ 0 then ([], [], 0, goErr p s f from' until') else if h : ∃ o, Runs p f until' (m0 s from') o then Classical.choose h else ([], [], 0, 0)
theorem placeE_pf {p : List Prc} {s : List Place} {k : Nat} {y : Place} (hg : s[k]? = some y) (h : placeE p s k = 0) : PF p y := by
  obtain ⟨pn, st, un⟩ := y
  by_cases h0 : prI p pn < 0
  · rw [placeE_neg hg h0] at h; cases h
  obtain ⟨pr, hpr, hn, hso⟩ := stepsOf_get (p := p) (s := pn) (by omega)
  rw [placeE_eq hg hpr (by omega)] at h
  split at h
  · cases h
  rename_i q1
  split at h
  · cases h
  rename_i q2
  simp only [Bool.or_eq_true, not_or, Bool.not_eq_true, Bool.not_eq_false'] at q1
  obtain ⟨q1a, q1b⟩ := q1
  simp only [inB, Bool.and_eq_true, decide_eq_true_eq] at q1a q1b
  refine ⟨by show 0 ≤ prI p pn; omega, ?_, q1b, fun hu => ?_⟩
  · simp only [hso]; exact q1a
  · simp only [hso]
    simp only [Bool.and_eq_true, decide_eq_true_eq, Bool.not_eq_true', not_and, Bool.not_eq_false, hu, forall_const] at q2
    simpa using q2.2
theorem ok0 {p : List Prc} {s : List Place} {f : List Fact} {from' until' : Int} (h : goErr p s f from' until' = 0) : GP p ∧ factsE f = 0 ∧ Ok p until' (m0 s from') ∧ placesE p s = 0 := by
  unfold goErr at h
  split at h
  · rename_i q; exact absurd h q
  rename_i q1
  split at h
  · rename_i q; exact absurd h q
  rename_i q2
  split at h
  · cases h
  rename_i q3
  split at h
  · cases h
  rename_i q4
  have h1 : placesE p s = 0 := by simpa using q1
  have h1' := h1
  unfold placesE at h1'
  split at h1'
  · rename_i q; exact absurd h1' q
  rename_i q5
  split at h1'
  · cases h1'
  rename_i q6
  simp [momB] at q3
  refine ⟨GP.of (by simpa using q5), by simpa using q2, ⟨fun y hy => ?_, ⟨by simp only [m0]; omega, by simp only [m0]; omega, by omega⟩, by simp [m0], by simp [m0], by simp [m0], by simp only [m0]; omega⟩, h1⟩
  obtain ⟨k, hk⟩ := List.getElem?_of_mem hy
  exact placeE_pf hk (fe_zero h1' k (List.getElem?_eq_some_iff.1 hk).1)
theorem goE_err {p : List Prc} {s : List Place} {f : List Fact} {from' until' e : Int} (h : goErr p s f from' until' = e) (he : e ≠ 0) : goE p s f from' until' = ([], [], 0, e) := by
  unfold goE
  rw [if_pos (by rw [h]; exact he), h]
theorem goE_run {p : List Prc} {s : List Place} {f : List Fact} {from' until' : Int} (h : goErr p s f from' until' = 0) : Runs p f until' (m0 s from') (goE p s f from' until') := by
  obtain ⟨h1, h2, h3, _⟩ := ok0 h
  have hex := runs_ex h1 f until' _ (m0 s from') (Nat.le_refl _) h3
  unfold goE
  rw [if_neg (by rw [h]; simp), dif_pos hex]
  exact Classical.choose_spec hex
def outV (o : Out) : V := .tup [.ro o.1.length (fl didCd o.1), .ro o.2.1.length (fl placeCd o.2.1), .int .i64 o.2.2.1, .int .i64 o.2.2.2]
/-- The loop's state. -/
def GI (p : List Prc) (f : List Fact) (until' : Int) (o : Out) (rid n : Nat) (t : St) : Prop := ∃ m, n = mu m ∧ Ok p until' m ∧ Runs p f until' m o ∧ t.t 15 = .pt rid 0 0 ∧ t.t 4 = .int .i64 until' ∧ Rs (C1 p f until') t.h t.nx rid m
theorem stepR_err {p : List Prc} {f : List Fact} {until' : Int} {m : M} {a : List Place} {x : Place} {e : Int} (h : stepR p f until' m a x = .err e) : e ≠ 0 := by
  unfold stepR at h
  split at h
  · cases h
  · split at h
    · unfold waited at h
      repeat' split at h
      all_goals cases h
    · split at h
      · injection h with h; rw [← h]; decide
      · split at h
        · injection h with h; rw [← h]; decide
        · split at h
          · injection h with h; rw [← h]; decide
          · cases h
theorem Go_ok (p : List Prc) (s : List Place) (f : List Fact) (from' until' : Int) (hok : ∀ x ∈ p, procOk x) (hl : p.length < 2 ^ 62) :
    OkF Try.prog 25 [.ro p.length (fl procCd p), .ro s.length (fl placeCd s), .ro f.length (fl factCd f), .int .i64 from', .int .i64 until'] (outV (goE p s f from' until'), []) := by
  have e62 := Go.Ex.e62
  have e47 := Go.Ex.e47
  refine OkF.W0 hm h25 (of_decide_eq_true rfl) ?_
  unfold c25
  simp -dsimp
  refine call_int (CheckPlaces_ok p s hok hl) ?_
  simp -dsimp
  refine call_int (facts_ok f) ?_
  simp -dsimp
  refine call_int (range1_ok from' 0 1000000000000) ?_
  simp -dsimp
  refine call_int (range1_ok until' 0 1000000000000) ?_
  have e4 : ∀ a b c d : Int, toRO (upd none0 0 (some ⟨0, 1, [.int .i64 a, .int .i64 b, .int .i64 c, .int .i64 d], none⟩)) 8 (.sl 0 0 0 4 (some 4)) = some (.ro 4 [.int .i64 a, .int .i64 b, .int .i64 c, .int .i64 d]) := fun _ _ _ _ => rfl
  simp -dsimp [fillA, e4]
  refine call_int (first_ok _ _ _ _) ?_
  have hE : goErr p s f from' until' = if first4 (placesE p s) (factsE f) (oneOf (momB from')) (oneOf (momB until')) ≠ 0 then first4 (placesE p s) (factsE f) (oneOf (momB from')) (oneOf (momB until')) else if until' < from' then 8 else 0 := by
    unfold goErr first4 oneOf
    by_cases q1 : placesE p s = 0 <;> by_cases q2 : factsE f = 0 <;> cases q3 : momB from' <;> cases q4 : momB until' <;> simp [q1, q2]
  have hm1 : (decide (0 ≤ from') && decide (from' ≤ 1000000000000)) = momB from' := rfl
  have hm2 : (decide (0 ≤ until') && decide (until' ≤ 1000000000000)) = momB until' := rfl
  simp -dsimp [hm1, hm2]
  generalize first4 (placesE p s) (factsE f) (oneOf (momB from')) (oneOf (momB until')) = e at hE
  refine condK_of ?_ ?_ <;> intro q <;> simp -dsimp
  · have q' : e ≠ 0 := by simpa using q
    rw [goE_err (by rw [hE, if_pos q']) q']
    simp [outV, fl_nil]
  have q' : e = 0 := by simpa using q
  rw [if_neg (by simp [q'])] at hE
  refine condK_of ?_ ?_ <;> intro q1 <;> simp -dsimp
  · have q1' : until' < from' := by simpa using q1
    rw [goE_err (by rw [hE, if_pos q1']) (by decide)]
    simp [outV, fl_nil]
  rw [if_neg (by simpa using q1)] at hE
  obtain ⟨hg, hF, hO, hP⟩ := ok0 hE
  have hrun := goE_run hE
  generalize goE p s f from' until' = o at hrun
  by_cases hs : s = []
  · subst hs
    have ho := hrun.nil rfl
    subst ho
    refine ⟨_, (.em, []), rfl, clone_em h70, rfl, ?_⟩
    simp -dsimp [shift, addB, fillS]
    refine loop_dec (fun n t => t.t 15 = .pt 1 0 0 ∧ t.h 1 = some ⟨0, 0, C1 p f until' .em .ns from' 0 0, none⟩) 0 ?_ (fun n t hI => ?_)
    · simp -dsimp [C1]
    · obtain ⟨i15, ih⟩ := hI
      simp only [C1] at ih
      unfold l25_0
      simp -dsimp [i15, ih]
      rfl
  · have hlen := hO.len
    simp only [m0] at hlen
    refine ⟨_, _, rfl, clone_ok (d := placeCd) (bytes := 32) hm h70 rfl s (by omega) (by omega) hs, by simp [okRes], ?_⟩
    simp -dsimp [shift, addB, fillS]
    refine loop_dec (GI p f until' o 2) (mu (m0 s from')) ?_ (fun n t hI => ?_)
    · refine ⟨m0 s from', rfl, hO, hrun, by simp -dsimp, by simp -dsimp, .sl 1 0 0 s.length none, .ns, by simp -dsimp [C1, m0], by simp -dsimp, Acc.mk (d := placeCd) (by simp -dsimp) (by simp -dsimp; rfl), Acc.nil _ _, by simp [ownOf], by simp [ownOf], by simp [ownOf]⟩
    · obtain ⟨m, hmu, hOk, hR, i15, i4, hS⟩ := hI
      obtain ⟨pl, now, done, all, did⟩ := m
      have hS' := hS
      obtain ⟨pv, dv, r1, r2, r3, r4, r5, r6, r7⟩ := hS'
      have hln := r3.len
      simp only [C1] at r1
      simp only at hln
      unfold l25_0
      simp -dsimp [i15, r1, hln]
      rcases List.eq_nil_or_concat pl with e | ⟨a, x, e⟩
      · subst e
        simp -dsimp [i15, r1]
        have ho := hR.nil rfl
        subst ho
        have hx := r4.ex1
        simp [hx, outV, fl_nil]
      · rw [List.concat_eq_append] at e
        subst e
        obtain ⟨pv', dv', id, ver, off, cells, hRn⟩ := hS.open rfl
        have h0 : (0 : Int) < ((a ++ [x]).length : Int) := by simp
        simp -dsimp [h0, i15]
        refine shr_ex (step_ok hRn hg hF hOk) ?_
        rintro v h' nx' ⟨hq1, hq2⟩
        have hinv := hR.inv rfl
        cases hst : stepR p f until' ⟨a ++ [x], now, done, all, did⟩ a x with
        | go m' =>
          rw [hst] at hq2 hinv
          obtain ⟨rfl, m'', hm2, hRs⟩ := hq2
          obtain ⟨hOk', hlt⟩ := hOk.step hg rfl hst
          simp -dsimp [i15, i4]
          have key : Ok p until' m'' ∧ mu m'' < n ∧ Runs p f until' m'' o := by
            rw [hmu]
            rcases hm2 with rfl | ⟨a', x', e1, e2⟩
            · exact ⟨hOk', hlt, hinv⟩
            · have hi2 := Runs.inv hinv e1
              rw [e2] at hi2
              obtain ⟨q1, q2⟩ := hOk'.step hg e1 e2
              exact ⟨q1, by omega, hi2⟩
          exact ⟨mu m'', key.2.1, m'', rfl, key.1, key.2.2, by simp -dsimp [i15], by simp -dsimp [i4], hRs⟩
        | stop m' =>
          rw [hst] at hq2 hinv
          obtain ⟨rfl, pv2, dv2, u1, u2, u3, u4, u5, u6, u7⟩ := hq2
          simp only at hinv
          subst hinv
          simp only [C1] at u1
          have hx3 := u3.ex1
          have hx4 := u4.ex1
          simp -dsimp [i15, i4, u1]
          simp [hx3, hx4, outV]
        | err e =>
          rw [hst] at hq2 hinv
          simp only at hq2 hinv
          subst hq2 hinv
          have he : e ≠ 0 := stepR_err hst
          simp -dsimp [he]
          simp [outV, fl_nil]
end Go.Proofs.P6
