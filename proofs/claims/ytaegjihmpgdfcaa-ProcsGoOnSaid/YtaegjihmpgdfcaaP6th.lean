/- The law of a procedure that is cut. -/
import Derived.Test.YtaegjihmpgdfcaaP6tf
import Derived.Test.YtaegjihmpgdfcaaP6F
import Derived.Test.YtaegjihmpgdfcaaP6tg
set_option linter.unusedVariables false
set_option linter.unusedSimpArgs false
set_option maxRecDepth 10000
set_option maxHeartbeats 4000000
namespace Go.Proofs.P6
open Go.Ex
theorem go_on {p : List Prc} {s : List Place} {f : List Fact} {from' cut until' : Int} (hz : (goE p s f from' until').2.2.2 = 0) (h1 : from' ≤ cut) (h2 : cut ≤ until') :
    (goE p s f from' cut).2.2.2 = 0 ∧ (((goE p s f from' cut).2.1 = [] ∧ goE p s f from' cut = goE p s f from' until') ∨
      ((goE p s f from' cut).2.1 ≠ [] ∧ ∃ c, goE p (goE p s f from' cut).2.1 f cut until' = (c, (goE p s f from' until').2.1, (goE p s f from' until').2.2.1, 0) ∧ (goE p s f from' until').1 = (goE p s f from' cut).1 ++ c)) := by
  have hE := ok_zero hz
  obtain ⟨hg, hF, hO, hP⟩ := ok0 hE
  have hn := hO.now
  simp only [m0] at hn
  have hEc : goErr p s f from' cut = 0 := by
    unfold goErr
    rw [if_neg (by rw [hP]; simp), if_neg (by rw [hF]; simp), if_neg (by simp [momB]; omega), if_neg (by omega)]
  obtain ⟨o2, r1, r2, r3⟩ := cut_runs hg hF (goE_run hE) h2 hO (by simp only [m0]; exact h1) hz
  have e2 : goE p s f from' cut = o2 := runs_det (goE_run hEc) r1
  have hR := goE_right hEc (by rw [e2]; exact r2)
  rw [e2] at hR ⊢
  refine ⟨r2, ?_⟩
  rcases r3 with ⟨q1, q2⟩ | ⟨q1, c, q2, q3⟩
  · exact .inl ⟨q1, q2⟩
  · refine .inr ⟨q1, c, ?_, q3⟩
    have hP2 := places_right (places_procs hP) hR.pf hR.ci
    have hE3 : goErr p o2.2.1 f cut until' = 0 := by
      unfold goErr
      rw [if_neg (by rw [hP2]; simp), if_neg (by rw [hF]; simp), if_neg (by simp [momB]; omega), if_neg (by omega)]
    exact runs_det (goE_run hE3) q2
def catV (b c : List Did) : V × List LB := if (b ++ c).length = 0 then (.ro 0 [], []) else (.sl 0 0 0 (b ++ c).length none, [⟨0, 2, fl didCd (b ++ c), none⟩])
def rowsCd : Cd (List Did) := .slice didCd
theorem OkF.W {sh : Nat → Bool} {f : Nat} {C : Cmd} {ts : List Nat} {nt : Nat} (hf : compF Try.prog sh f = some (C, ts, nt)) {args : List V} (nt0 : args.length ≤ nt) {r : V × List LB}
    (hw : Ex.W Try.prog C (fun e s => endK e (∃ own : List Nat, own.Nodup ∧ expV s.h own (resV ts s.t) = some r.1 ∧ own.mapM (expB s.h own) = some r.2)) ⟨initT args, none0, 0⟩ ⟨⟩ ⟨⟩) (hpb : ∀ b ∈ r.2, V.pureL b.cells = true ∧ b.mp = none) : OkF Try.prog f args r :=
  OkF.of hm hf nt0 (wpA_mono C (fun e s h => by cases e <;> exact h) hw) hpb
theorem app_exact {h : Hp} {nx id ver : Nat} {l l' : List Did} {K : V → Hp → Nat → Option (List Nat) → Option (List Nat) → Prop} (hb : h id = some ⟨ver, 2, fl didCd l, none⟩) (hl : l.length ≤ 10000) (hl' : l'.length ≤ 10000) :
    appK 2 24 (.sl id ver 0 l.length none) (some (l'.length, fl didCd l')) h nx K ⟨⟩ = K (.sl id (ver + 1) 0 (l ++ l').length none) (upd h id (some ⟨ver + 1, 2, fl didCd (l ++ l'), none⟩)) nx none none := by
  have e62 := Go.Ex.e62
  have e47 := Go.Ex.e47
  have hfl : (fl didCd l).length = l.length * 2 := flat_len l
  have ht : (fl didCd l).take (l.length * 2) = fl didCd l := List.take_of_length_le (by omega)
  simp only [appK, appA, hb]
  rw [if_pos ⟨trivial, trivial, trivial, by omega, by omega, by omega⟩]
  simp only [List.drop_zero, ht, fl_append, List.length_append, ite_self]
  rfl
def CatI (b c : List Did) (k : Nat) (t : St) : Prop := t.t 25 = .ro 2 (fl rowsCd [b, c]) ∧ ∃ id ver, t.t 6 = .sl id ver 0 (([b, c].take k).flatten).length none ∧ t.h id = some ⟨ver, 2, fl didCd ([b, c].take k).flatten, none⟩
theorem concat_ok (b c : List Did) (hb : b.length ≤ 5000) (hc : c.length ≤ 5000) : OkF Try.prog 28 [.ro 2 [.ro b.length (fl didCd b), .ro c.length (fl didCd c)]] (catV b c) := by
  have e62 := Go.Ex.e62
  have hfl : fl rowsCd [b, c] = [.ro b.length (fl didCd b), .ro c.length (fl didCd c)] := rfl
  rw [← hfl]
  refine OkF.W h28 (of_decide_eq_true rfl) ?_ (fun q hq => ?_)
  · unfold c28
    simp -dsimp
    refine for_lt 2 (fun k t => t.t 9 = .ro 2 (fl rowsCd [b, c]) ∧ t.t 0 = .ro 2 (fl rowsCd [b, c]) ∧ t.t 3 = .int .i64 (([b, c].take k).flatten).length ∧ t.h = none0 ∧ t.nx = 0) rfl (by decide) (by simp -dsimp) (by simp -dsimp) (by simp -dsimp) (fun k t hk hI hi hn => ?_) (fun t hI hi hn => ?_)
    · obtain ⟨i9, i0, i3, ih, inx⟩ := hI
      have hk' : k < [b, c].length := hk
      have hg : [b, c][k]? = some [b, c][k] := List.getElem?_eq_getElem hk'
      have hx5 : [b, c][k].length ≤ 5000 := by
        have : k = 0 ∨ k = 1 := by omega
        rcases this with rfl | rfl
        · exact hb
        · exact hc
      have htk : ([b, c].take (k + 1)).flatten = ([b, c].take k).flatten ++ [b, c][k] := by
        rw [List.take_succ_eq_append_getElem hk', List.flatten_append]
        simp
      have hpre : (([b, c].take k).flatten).length ≤ 10000 := by
        have : k = 0 ∨ k = 1 := by omega
        rcases this with q | q <;> subst q <;> simp <;> omega
      generalize [b, c][k] = x at hg hx5 htk
      rw [htk]
      generalize ([b, c].take k).flatten = pre at i3 hpre
      have e1 : ∀ h K, iaddrK h (.ro 2 (fl rowsCd [b, c])) (.int .i64 k) 1 K ⟨⟩ = K (.rp (fl rowsCd [b, c]) k) [] := fun h K => by
        have := iaddr_fl (d := rowsCd) (n := 1) (kk := .i64) (h := h) (K := K) (l := [b, c]) rfl (by decide) hg
        rwa [Nat.mul_one] at this
      have e2 : ∀ h, ldA h (.rp (fl rowsCd [b, c]) k) none = some (.ro x.length (fl didCd x)) := fun h => by
        have := ld_fl0 (d := rowsCd) (n := 1) (h := h) (l := [b, c]) rfl (by decide) hg
        rw [Nat.mul_one] at this
        exact this
      have hw : IntKind.i64.wrap ((pre.length : Int) + (x.length : Int)) = (pre.length : Int) + (x.length : Int) := IntWalk.i64_in _ (by omega)
      have hpos : ¬ ((pre.length : Int) + (x.length : Int) < 0) := by omega
      unfold k28_0
      simp -dsimp [i9, i0, i3, hi, hn, e1, e2, hw, hpos, ih, inx]
    · obtain ⟨i9, i0, i3, ih, inx⟩ := hI
      have hall : ([b, c].take 2).flatten = b ++ c := by simp
      rw [hall] at i3
      simp -dsimp [i3, ih, inx]
      by_cases hz : (b ++ c).length = 0
      · have hb0 : b = [] := by simp at hz; exact hz.1
        have hc0 : c = [] := by simp at hz; exact hz.2
        subst hb0 hc0
        simp -dsimp
        refine ⟨_, _, _, grow0_ok, ?_⟩
        simp -dsimp [i0]
        refine for_lt 2 (fun k t => t.t 25 = .ro 2 (fl rowsCd [[], []]) ∧ t.t 6 = .ns) rfl (by decide) (by simp -dsimp) (by simp -dsimp) (by simp -dsimp) (fun k t hk hI hi hn => ?_) (fun t hI hi hn => ?_)
        · obtain ⟨j25, j6⟩ := hI
          have hg : [([] : List Did), []][k]? = some [] := by
            have : k = 0 ∨ k = 1 := by omega
            rcases this with rfl | rfl <;> rfl
          have e1 : ∀ h K, iaddrK h (.ro 2 (fl rowsCd [[], []])) (.int .i64 k) 1 K ⟨⟩ = K (.rp (fl rowsCd [[], []]) k) [] := fun h K => by
            have := iaddr_fl (d := rowsCd) (n := 1) (kk := .i64) (h := h) (K := K) (l := [[], []]) rfl (by decide) hg
            rwa [Nat.mul_one] at this
          have e2 : ∀ h, ldA h (.rp (fl rowsCd [[], []]) k) none = some (.ro 0 []) := fun h => by
            have := ld_fl0 (d := rowsCd) (n := 1) (h := h) (l := [[], []]) rfl (by decide) hg
            rw [Nat.mul_one] at this
            exact this
          have e3 : ∀ h nx K, appK 2 24 .ns (some (0, [])) h nx K ⟨⟩ = K .ns h nx none none := fun h nx K => by
            simp [appK, appA, resK]
          unfold k28_1
          simp -dsimp [j25, j6, hi, hn, e1, e2, e3]
        · obtain ⟨j25, j6⟩ := hI
          simp -dsimp [j6]
          exact ⟨[], .nil, rfl, rfl⟩
      · have hpos : 0 < (b ++ c).length := by omega
        have hgr := grow_ok (h := none0) (nx := 0) (b ++ c).length hpos (by rw [List.length_append]; omega)
        rw [List.length_append] at hgr
        refine ⟨_, _, _, hgr, ?_⟩
        simp -dsimp [i0]
        refine for_lt 2 (CatI b c) rfl (by decide) ?_ (by simp -dsimp) (by simp -dsimp) (fun k t hk hI hi hn => ?_) (fun t hI hi hn => ?_)
        · exact ⟨by simp -dsimp, 0, 0, by simp -dsimp, by simp -dsimp [fl_nil]⟩
        · obtain ⟨j25, id, ver, j6, jh⟩ := hI
          have hk' : k < [b, c].length := hk
          have hg : [b, c][k]? = some [b, c][k] := List.getElem?_eq_getElem hk'
          have hx5 : [b, c][k].length ≤ 5000 := by
            have : k = 0 ∨ k = 1 := by omega
            rcases this with rfl | rfl
            · exact hb
            · exact hc
          have htk : ([b, c].take (k + 1)).flatten = ([b, c].take k).flatten ++ [b, c][k] := by
            rw [List.take_succ_eq_append_getElem hk', List.flatten_append]
            simp
          have hpre : (([b, c].take k).flatten).length ≤ 10000 := by
            have : k = 0 ∨ k = 1 := by omega
            rcases this with q | q <;> subst q <;> simp <;> omega
          generalize [b, c][k] = x at hg hx5 htk
          have goal : ∀ t' : St, t'.t 25 = .ro 2 (fl rowsCd [b, c]) → t'.t 6 = .sl id (ver + 1) 0 (([b, c].take k).flatten ++ x).length none → t'.h = upd t.h id (some ⟨ver + 1, 2, fl didCd (([b, c].take k).flatten ++ x), none⟩) → CatI b c (k + 1) t' := fun t' h1 h2 h3 => by
            refine ⟨h1, id, ver + 1, ?_, ?_⟩
            · rw [htk]; exact h2
            · rw [htk, h3]; simp
          generalize ([b, c].take k).flatten = pre at j6 jh hpre goal
          have e1 : ∀ h K, iaddrK h (.ro 2 (fl rowsCd [b, c])) (.int .i64 k) 1 K ⟨⟩ = K (.rp (fl rowsCd [b, c]) k) [] := fun h K => by
            have := iaddr_fl (d := rowsCd) (n := 1) (kk := .i64) (h := h) (K := K) (l := [b, c]) rfl (by decide) hg
            rwa [Nat.mul_one] at this
          have e2 : ∀ h, ldA h (.rp (fl rowsCd [b, c]) k) none = some (.ro x.length (fl didCd x)) := fun h => by
            have := ld_fl0 (d := rowsCd) (n := 1) (h := h) (l := [b, c]) rfl (by decide) hg
            rw [Nat.mul_one] at this
            exact this
          have e3 : ∀ K, appK 2 24 (.sl id ver 0 pre.length none) (some (x.length, fl didCd x)) t.h t.nx K ⟨⟩ = K (.sl id (ver + 1) 0 (pre ++ x).length none) (upd t.h id (some ⟨ver + 1, 2, fl didCd (pre ++ x), none⟩)) t.nx none none := fun K => app_exact jh hpre (by omega)
          have hlx : (fl didCd x).length = x.length * 2 := flat_len x
          unfold k28_1
          simp -dsimp [j25, j6, hi, hn, e1, e2, hlx, e3]
          exact goal _ (by simp -dsimp [j25]) (by simp -dsimp) rfl
        · obtain ⟨j25, id, ver, j6, jh⟩ := hI
          have hall : ([b, c].take 2).flatten = b ++ c := by simp
          rw [hall] at j6 jh
          simp -dsimp [j6]
          have hv : catV b c = (.sl 0 0 0 (b ++ c).length none, [⟨0, 2, fl didCd (b ++ c), none⟩]) := by unfold catV; rw [if_neg hz]
          rw [hv]
          have hpure : V.pureL (fl didCd (b ++ c)) = true := fl_pure _
          refine ⟨[id], by simp, ?_, ?_⟩
          · simp only [expV, exp1, expC, resV, jh]
            simp [ixOf]
          · simp [expB, jh, roL, hpure]
  · unfold catV at hq
    split at hq
    · cases hq
    · simp at hq
      subst hq
      exact ⟨fl_pure _, rfl⟩
theorem roFree_did : ∀ l : List Did, roFreeL (fl didCd l) = true
  | [] => rfl
  | x :: l => by
    have := roFree_did l
    show roFreeL ([.int .i64 x.1, .str x.2] ++ fl didCd l) = true
    simp [roFreeL, roFree, this]
theorem ProcsGoOn (p : List Prc) (s : List Place) (f : List Fact) (from' cut until' : Int) (hok : ∀ x ∈ p, procOk x) (hl : p.length < 2 ^ 62) :
    OkF Try.prog 6 [.ro p.length (fl procCd p), .ro s.length (fl placeCd s), .ro f.length (fl factCd f), .int .i64 from', .int .i64 cut, .int .i64 until'] (.bool true, []) := by
  have e62 := Go.Ex.e62
  have hsm := goE_small p s f from' until'
  have h1 := Go_ok p s f from' until' hok hl
  have hbad := @goE_bad p s f from' until'
  have hgo := @go_on p s f from' cut until'
  have hsm2 := goE_small p s f from' cut
  have h2 := Go_ok p s f from' cut hok hl
  have h3 := fun y => Go_ok p y f cut until' hok hl
  generalize goE p s f from' until' = o at hsm h1 hbad hgo
  generalize goE p s f from' cut = o2 at hgo hsm2 h2
  obtain ⟨a, x, n, e⟩ := o
  obtain ⟨b, y, k, e2⟩ := o2
  simp only at hbad hgo hsm hsm2
  simp only [outV] at h1 h2
  refine OkF.W0 hm h6 (of_decide_eq_true rfl) ?_
  unfold c6
  simp -dsimp
  refine call_one h1 (okRes_of (by simp)) ?_
  simp -dsimp
  by_cases he : e = 0
  case neg =>
    have := hbad he
    injection this with a1 a2
    injection a2 with a2 a3
    injection a3 with a3 _
    subst a1 a2 a3
    simp -dsimp [he]
    refine call_bool awake_ok ?_
    simp -dsimp
  subst he
  simp -dsimp
  by_cases c1 : cut < from'
  · simp -dsimp [c1]
    refine call_bool awake_ok ?_
    simp -dsimp
  by_cases c2 : until' < cut
  · simp -dsimp [c1, c2]
    refine call_bool awake_ok ?_
    simp -dsimp
  simp -dsimp [c1, c2]
  refine call_one h2 (okRes_of (by simp)) ?_
  obtain ⟨g1, g2⟩ := hgo rfl (by omega) (by omega)
  subst g1
  simp -dsimp
  rcases g2 with ⟨q1, q2⟩ | ⟨q1, c, q2, q3⟩
  · subst q1
    injection q2 with q2 q3
    injection q3 with q3 q4
    injection q4 with q4 _
    subst q2 q3 q4
    simp -dsimp
    refine call_bool (equalDid_ok _ _ (by omega)) ?_
    simp -dsimp
    refine call_bool awake_ok ?_
    simp -dsimp
  · have h4 := h3 y
    rw [q2] at h4
    simp only [outV] at h4
    simp -dsimp [q1]
    refine call_one h4 (okRes_of (by simp)) ?_
    have hcl : c.length ≤ 5000 := by have := hsm.1; rw [q3, List.length_append] at this; omega
    have hpure : V.pureL [.ro b.length (fl didCd b), .ro c.length (fl didCd c)] = true := by
      have h1 : V.pureL (fl didCd b) = true := fl_pure b
      have h2 : V.pureL (fl didCd c) = true := fl_pure c
      simp [V.pureL, V.pure, h1, h2]
    have e5 : toRO (upd none0 0 (some ⟨0, 1, [.ro b.length (fl didCd b), .ro c.length (fl didCd c)], none⟩)) 8 (.sl 0 0 0 2 (some 2)) = some (.ro 2 [.ro b.length (fl didCd b), .ro c.length (fl didCd c)]) := by
      simp [toRO, cellRO, upd, hpure]
    simp -dsimp [fillA, e5]
    have hcat : a = b ++ c := q3
    by_cases hz : (b ++ c).length = 0
    · have hv : catV b c = (.ro 0 [], []) := by unfold catV; rw [if_pos hz]
      have h5 := concat_ok b c (by omega) hcl
      rw [hv] at h5
      refine call_one h5 (by simp [okRes, roFree]) ?_
      have hbc : b ++ c = [] := List.eq_nil_of_length_eq_zero hz
      have h6 := equalDid_ok a [] (by omega)
      rw [← hcat] at hbc
      simp -dsimp [shift]
      refine call_bool (b := true) (by simpa [fl_nil, hbc] using h6) ?_
      simp -dsimp
      refine call_bool (equalPlace_ok _ _ hsm.2) ?_
      simp -dsimp
      refine call_bool awake_ok ?_
      simp -dsimp
    · have hv : catV b c = (.sl 0 0 0 (b ++ c).length none, [⟨0, 2, fl didCd (b ++ c), none⟩]) := by unfold catV; rw [if_neg hz]
      have h5 := concat_ok b c (by omega) hcl
      rw [hv] at h5
      refine ⟨_, _, rfl, h5, by simp [okRes, roFree, roFree_did], ?_⟩
      simp -dsimp [shift, addB]
      have e6 : ∀ h : Hp, toRO (upd h 1 (some ⟨0, 2, fl didCd (b ++ c), none⟩)) 8 (.sl 1 0 0 (b ++ c).length none) = some (.ro (b ++ c).length (fl didCd (b ++ c))) := fun h => by
        have := Acc.ro (d := didCd) (h := upd h 1 (some ⟨0, 2, fl didCd (b ++ c), none⟩)) (nx := 2) (v := .sl 1 0 0 (b ++ c).length none) (l := b ++ c) (Acc.mk (by decide) (by simp [upd]; rfl)) (n := 7)
        exact this
      simp only [List.length_append] at e6
      simp -dsimp [e6]
      have h6 := equalDid_ok a (b ++ c) (by omega)
      simp only [List.length_append] at h6
      refine call_bool (b := true) (by simpa [hcat] using h6) ?_
      simp -dsimp
      refine call_bool (equalPlace_ok _ _ hsm.2) ?_
      simp -dsimp
      refine call_bool awake_ok ?_
      simp -dsimp
end Go.Proofs.P6
