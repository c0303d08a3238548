/- Places; the law of procedures. -/
import Derived.Test.YtaegjihmpgdfcaaP6v
set_option linter.unusedVariables false
set_option linter.unusedSimpArgs false
set_option maxRecDepth 10000
set_option maxHeartbeats 16000000
namespace Go.Proofs.P6
open Go.Ex
/-- Proc, Step, Until. -/
abbrev Place := List UInt8 × Int × Int
def placeCd : Cd Place := .pair .str (.pair (.int .i64) (.int .i64))
def placeV (x : Place) : List V := [.str x.1, .int .i64 x.2.1, .int .i64 x.2.2]
section
variable {h : Hp} {k : Nat} {kk : IntKind} {K : V → List Nat → Prop} {l : List Place} {a : Place}
theorem place_ia (e : l[k]? = some a) : iaddrK h (.ro l.length (fl placeCd l)) (.int kk k) 3 K ⟨⟩ = K (.rp (fl placeCd l) (k * 3)) [] := iaddr_fl rfl (by decide) e
theorem place_ld (e : l[k]? = some a) : ldA h (.rp (fl placeCd l) (k * 3)) (some 3) = some (.agg (placeV a)) := ld_fls (n := 3) rfl e
theorem place_l0 (e : l[k]? = some a) : ldA h (.rp (fl placeCd l) (k * 3)) none = some (.str a.1) := ld_fl0 (n := 3) rfl (by decide) e
theorem place_l1 (e : l[k]? = some a) : ldA h (.rp (fl placeCd l) (k * 3 + 1)) none = some (.int .i64 a.2.1) := ld_fl (n := 3) rfl (by decide) e
theorem place_l2 (e : l[k]? = some a) : ldA h (.rp (fl placeCd l) (k * 3 + 2)) none = some (.int .i64 a.2.2) := ld_fl (n := 3) rfl (by decide) e
end
theorem equalPlace_ok (l m : List Place) (hl : l.length < 2 ^ 62) : OkF Try.prog 21 [.ro l.length (fl placeCd l), .ro m.length (fl placeCd m)] (.bool (decide (l = m)), []) :=
  equal_ok (d := placeCd) (esz := 3) hm h21 rfl (by decide) (fun a b => by
    obtain ⟨a1, a2, a3⟩ := a
    obtain ⟨b1, b2, b3⟩ := b
    show seqA true [2, 0, 0] (.agg [.str a1, .int .i64 a2, .int .i64 a3]) (.agg [.str b1, .int .i64 b2, .int .i64 b3]) = _
    simp [seqA, tagOf, eqCells]
    rw [Bool.eq_iff_iff]
    simp) l m hl
noncomputable def startE (p : List Prc) (s : List UInt8) : List Place × Int := if procsE p ≠ 0 then ([], procsE p) else if prI p s < 0 then ([], 9) else ([(s, 0, -1)], 0)
theorem start_len (p : List Prc) (s : List UInt8) : (startE p s).1.length ≤ 1 := by
  unfold startE
  split
  · simp
  · split <;> simp
theorem Start_ok (p : List Prc) (s : List UInt8) (hok : ∀ x ∈ p, procOk x) (hl : p.length < 2 ^ 62) : OkF Try.prog 17 [.ro p.length (fl procCd p), .str s] (.tup [.ro (startE p s).1.length (fl placeCd (startE p s).1), .int .i64 (startE p s).2], []) := by
  refine OkF.W0 hm h17 (of_decide_eq_true rfl) ?_
  unfold c17
  simp -dsimp
  refine call_int (CheckProcs_ok p hok) ?_
  simp -dsimp
  refine condK_of ?_ ?_ <;> intro q <;> simp -dsimp
  · have : procsE p ≠ 0 := by simpa using q
    simp [startE, this, fl_nil]
  have hz : procsE p = 0 := by simpa using q
  refine call_int (procAt_ok p s hl) ?_
  simp -dsimp
  refine condK_of ?_ ?_ <;> intro q1 <;> simp -dsimp
  · have : prI p s < 0 := by simpa using q1
    simp [startE, hz, this, fl_nil]
  have h1 : ¬ prI p s < 0 := by simpa using q1
  have e : startE p s = ([(s, 0, -1)], 0) := by unfold startE; rw [if_neg (by simp [hz]), if_neg h1]
  rw [e]
  simp -dsimp [fillS, fillA]
  rfl
theorem StartRef_ok (p : List Prc) (s : List UInt8) (hok : ∀ x ∈ p, procOk x) (hl : p.length < 2 ^ 62) : OkF Try.prog 18 [.ro p.length (fl procCd p), .str s] (.tup [.ro (startE p s).1.length (fl placeCd (startE p s).1), .int .i64 (startE p s).2], []) := by
  refine OkF.W0 hm h18 (of_decide_eq_true rfl) ?_
  unfold c18
  simp -dsimp
  refine call_int (CheckProcsRef_ok p hok) ?_
  simp -dsimp
  refine condK_of ?_ ?_ <;> intro q <;> simp -dsimp
  · have : procsE p ≠ 0 := by simpa using q
    simp [startE, this, fl_nil]
  have hz : procsE p = 0 := by simpa using q
  refine call_int (procOf_ok p s hl) ?_
  simp -dsimp
  refine condK_of ?_ ?_ <;> intro q1 <;> simp -dsimp
  · have : prI p s < 0 := by simpa using q1
    simp [startE, hz, this, fl_nil]
  have h1 : ¬ prI p s < 0 := by simpa using q1
  have e : startE p s = ([(s, 0, -1)], 0) := by unfold startE; rw [if_neg (by simp [hz]), if_neg h1]
  rw [e]
  simp -dsimp [fillS, fillA]
  rfl
/-- The kind of a step is so. -/
def kindAt (l : List Step) (n : Nat) (f : Step → Bool) : Bool := match l[n]? with
  | some y => f y
  | none => false
def waitsB (y : Step) : Bool := decide (y.1 = 2) || decide (y.1 = 3)
def nextIs (s : List Place) (k : Nat) (t : List UInt8) : Bool := match s[k + 1]? with
  | some y => decide (t = y.1)
  | none => false
def placeE (p : List Prc) (s : List Place) (k : Nat) : Int := match s[k]? with
  | none => 0
  | some x => match p[(prI p x.1).toNat]? with
    | none => 9
    | some pr => if prI p x.1 < 0 then 9 else if !inB x.2.1 0 pr.2.length || !inB x.2.2 (-1) 1001000000000 then 1
      else if decide (0 ≤ x.2.2) && !(decide (k + 1 = s.length) && kindAt pr.2 x.2.1.toNat waitsB) then 11
      else if !decide (k + 1 = s.length) && !(decide (0 < x.2.1) && kindAt pr.2 (x.2.1.toNat - 1) (fun y => decide (y.1 = 6) && nextIs s k y.2.1)) then 11 else 0
noncomputable def placesE (p : List Prc) (s : List Place) : Int := if procsE p ≠ 0 then procsE p else if 50 < s.length then 2 else fe (placeE p s) s.length
theorem procs_le {p : List Prc} (h : procsE p = 0) : p.length ≤ 50 := by
  unfold procsE at h
  split at h
  · cases h
  · omega
theorem placeE_eq {p : List Prc} {s : List Place} {k : Nat} {pn : List UInt8} {st un : Int} {pr : Prc} (hg : s[k]? = some (pn, st, un)) (hpr : p[(prI p pn).toNat]? = some pr) (h0 : 0 ≤ prI p pn) : placeE p s k = if !inB st 0 pr.2.length || !inB un (-1) 1001000000000 then 1
      else if decide (0 ≤ un) && !(decide (k + 1 = s.length) && kindAt pr.2 st.toNat waitsB) then 11
      else if !decide (k + 1 = s.length) && !(decide (0 < st) && kindAt pr.2 (st.toNat - 1) (fun y => decide (y.1 = 6) && nextIs s k y.2.1)) then 11 else 0 := by
  unfold placeE
  rw [hg]
  simp only
  rw [hpr]
  simp only
  rw [if_neg (by omega)]
theorem placeE_neg {p : List Prc} {s : List Place} {k : Nat} {pn : List UInt8} {st un : Int} (hg : s[k]? = some (pn, st, un)) (h0 : prI p pn < 0) : placeE p s k = 9 := by
  unfold placeE
  rw [hg]
  simp only
  split
  · rfl
  · rw [if_pos h0]
theorem places_proc {p : List Prc} (hz : procsE p = 0) : Right1 p := right1 (by
  have h5 := procs_le hz
  rw [procsE_of h5] at hz
  split at hz
  · rename_i q; exact absurd hz q
  · rename_i q; simpa using q)
theorem CheckPlaces_ok (p : List Prc) (s : List Place) (hok : ∀ x ∈ p, procOk x) (hl : p.length < 2 ^ 62) : OkF Try.prog 22 [.ro p.length (fl procCd p), .ro s.length (fl placeCd s)] (.int .i64 (placesE p s), []) := by
  refine OkF.W0 hm h22 (of_decide_eq_true rfl) ?_
  unfold c22
  simp -dsimp
  refine call_int (CheckProcs_ok p hok) ?_
  simp -dsimp
  refine condK_of ?_ ?_ <;> intro q <;> simp -dsimp
  · have : procsE p ≠ 0 := by simpa using q
    simp [placesE, this]
  have hz : procsE p = 0 := by simpa using q
  have hR := places_proc hz
  refine condK_of ?_ ?_ <;> intro q1 <;> simp -dsimp
  · have : 50 < s.length := by simp at q1; omega
    simp [placesE, hz, this]
  have h50 : s.length ≤ 50 := by simp at q1; omega
  have hE : placesE p s = fe (placeE p s) s.length := by unfold placesE; rw [if_neg (by simp [hz]), if_neg (by omega)]
  refine for_lt s.length (fun k t => t.t 0 = .ro p.length (fl procCd p) ∧ t.t 1 = .ro s.length (fl placeCd s) ∧ t.t 19 = .ro s.length (fl placeCd s) ∧ fe (placeE p s) k = 0) rfl (by omega) (by simp -dsimp [fe]) (by simp -dsimp) (by simp -dsimp) (fun k t hk hI hi hn => ?_) (fun t hI hi hn => ?_)
  · obtain ⟨i0, i1, i19, iu⟩ := hI
    have hg : s[k]? = some s[k] := List.getElem?_eq_getElem hk
    generalize s[k] = x at hg
    obtain ⟨pn, st, un⟩ := x
    have bad : ∀ v, placeE p s k = v → v ≠ 0 → placesE p s = v := fun v h1 h2 => by rw [hE, fe_stop iu (by rw [h1]; exact h2) hk, h1]
    have hw2 : IntKind.i64.wrap ((k : Int) + 1) = ((k + 1 : Nat) : Int) := by rw [IntWalk.i64_in _ (by omega)]; simp
    unfold k22_0
    simp -dsimp [i0, i1, i19, hi, hn, place_ia hg, place_ld hg, placeV]
    refine call_int (procAt_ok p _ hl) ?_
    simp -dsimp
    refine condK_of ?_ ?_ <;> intro a1 <;> simp -dsimp [i0, i1, i19, hi, hn]
    · rw [bad 9 (placeE_neg hg (by simpa using a1)) (by decide)]
    have hp0 : 0 ≤ prI p pn := by simpa using a1
    obtain ⟨pr, hpr, _⟩ := prI_get hp0
    have hch := placeE_eq hg hpr hp0
    have hpc : ((prI p pn).toNat : Int) = prI p pn := by omega
    have hia : ∀ h K, iaddrK h (.ro p.length (fl procCd p)) (.int .i64 (prI p pn)) 2 K ⟨⟩ = K (.rp (fl procCd p) ((prI p pn).toNat * 2)) [] := fun h K => by
      have := proc_ia (h := h) (kk := .i64) (K := K) hpr
      rw [hpc] at this
      exact this
    simp -dsimp [hia, proc_l1 hpr, i0, i1, i19, hi, hn]
    refine call_bool (inB_ok _ _ _) ?_
    simp -dsimp
    by_cases b1 : inB st 0 pr.2.length = true
    · obtain ⟨n, rfl⟩ : ∃ n : Nat, st = n := ⟨st.toNat, by unfold inB at b1; simp at b1; omega⟩
      have hnl : n ≤ pr.2.length := by unfold inB at b1; simp at b1; omega
      have hlen : pr.2.length ≤ 200 := (hR.steps pr (List.mem_of_getElem? hpr)).1
      have hw1 : IntKind.i64.wrap ((s.length : Int) - 1) = (s.length : Int) - 1 := IntWalk.i64_in _ (by omega)
      simp -dsimp [b1, i0, i1, i19, hi, hn]
      refine call_bool (inB_ok _ _ _) ?_
      simp -dsimp [i0, i1, i19, hi, hn, hw1]
      refine condK_of ?_ ?_ <;> intro a2 <;> simp -dsimp [i0, i1, i19, hi, hn, hw1]
      · rw [bad 1 (by rw [hch]; simp at a2; simp [a2]) (by decide)]
      simp at a2
      have hu1 : -1 ≤ un := by unfold inB at a2; simp at a2; omega
      simp only [Int.toNat_natCast, b1, a2, Bool.not_true, Bool.or_self] at hch
      by_cases hL : k + 1 = s.length
      · have hL' : decide ((k : Int) = (s.length : Int) - 1) = true := by simp; omega
        rcases Nat.lt_or_ge n pr.2.length with hlt | hge
        · have hgy : pr.2[n]? = some pr.2[n] := List.getElem?_eq_getElem hlt
          generalize pr.2[n] = y at hgy
          have hne : ¬ (n : Int) = (pr.2.length : Int) := by omega
          have hlt2 : (n : Int) < (pr.2.length : Int) := by omega
          try simp -dsimp [i0, i1, i19, hi, hn, hw1, hL', hne, hlt2, step_ia hgy, step_l0 hgy]
          repeat' (first
            | (refine condK_of ?_ ?_ <;> intro q <;> simp -dsimp [q, i0, i1, i19, hi, hn, hw1, hL', hne, hlt2, step_ia hgy, step_l0 hgy, hw2])
            | (refine wantT_of ?_ ?_ <;> intro q <;> simp -dsimp [q, i0, i1, i19, hi, hn, hw1, hL', hne, hlt2, step_ia hgy, step_l0 hgy, hw2])
            | (refine wantF_of ?_ ?_ <;> intro q <;> simp -dsimp [q, i0, i1, i19, hi, hn, hw1, hL', hne, hlt2, step_ia hgy, step_l0 hgy, hw2]))
          all_goals first
            | (rw [bad 11 (by rw [hch]; simp_all [kindAt, waitsB]; try omega) (by decide)]; done)
            | (refine fe_step iu ?_; rw [hch]; simp_all [kindAt, waitsB]; try omega)
        · have hnl : n = pr.2.length := by omega
          subst hnl
          have hgy : pr.2[pr.2.length]? = none := List.getElem?_eq_none (by omega)
          try simp -dsimp [i0, i1, i19, hi, hn, hw1, hL']
          repeat' (first
            | (refine condK_of ?_ ?_ <;> intro q <;> simp -dsimp [q, i0, i1, i19, hi, hn, hw1, hL', hw2])
            | (refine wantT_of ?_ ?_ <;> intro q <;> simp -dsimp [q, i0, i1, i19, hi, hn, hw1, hL', hw2])
            | (refine wantF_of ?_ ?_ <;> intro q <;> simp -dsimp [q, i0, i1, i19, hi, hn, hw1, hL', hw2]))
          all_goals first
            | (rw [bad 11 (by rw [hch]; simp_all [kindAt, waitsB]; try omega) (by decide)]; done)
            | (refine fe_step iu ?_; rw [hch]; simp_all [kindAt, waitsB]; try omega)
      · have hL' : ¬ (k : Int) = (s.length : Int) - 1 := by omega
        have hgz : s[k + 1]? = some (s[k + 1]'(by omega)) := List.getElem?_eq_getElem (by omega)
        generalize s[k + 1]'(by omega) = z at hgz
        have hzia : ∀ h K, iaddrK h (.ro s.length (fl placeCd s)) (.int .i64 ((k : Int) + 1)) 3 K ⟨⟩ = K (.rp (fl placeCd s) ((k + 1) * 3)) [] := fun h K => by
          have := place_ia (h := h) (kk := .i64) (K := K) hgz
          simpa using this
        skip
        rcases n with _ | n
        · try simp -dsimp [i0, i1, i19, hi, hn, hw1, hL']
          repeat' (first
            | (refine condK_of ?_ ?_ <;> intro q <;> simp -dsimp [q, i0, i1, i19, hi, hn, hw1, hL', hw2,])
            | (refine wantT_of ?_ ?_ <;> intro q <;> simp -dsimp [q, i0, i1, i19, hi, hn, hw1, hL', hw2,])
            | (refine wantF_of ?_ ?_ <;> intro q <;> simp -dsimp [q, i0, i1, i19, hi, hn, hw1, hL', hw2,]))
          all_goals first
            | (rw [bad 11 (by rw [hch]; simp_all [kindAt, waitsB, nextIs]; try omega) (by decide)]; done)
            | (refine fe_step iu ?_; rw [hch]; simp_all [kindAt, waitsB, nextIs]; try omega)
        · have hgp : pr.2[n]? = some pr.2[n] := List.getElem?_eq_getElem (by omega)
          generalize pr.2[n] = y at hgp
          have hwn : IntKind.i64.wrap (((n + 1 : Nat) : Int) - 1) = (n : Int) := by rw [wrap_pred (by omega) (by omega)]; simp
          have hwn' : IntKind.i64.wrap (n : Int) = (n : Int) := IntWalk.i64_in _ (by omega)
          have hn0 : ¬ ((n : Int) + 1 = 0) := by omega
          try simp -dsimp [i0, i1, i19, hi, hn, hw1, hL', hwn, hwn', hn0]
          repeat' (first
            | (refine condK_of ?_ ?_ <;> intro q <;> simp -dsimp [q, i0, i1, i19, hi, hn, hw1, hL', hw2, hwn, hwn', hn0, step_ia hgp, step_l0 hgp, step_l1 hgp, hzia, place_l0 hgz,])
            | (refine wantT_of ?_ ?_ <;> intro q <;> simp -dsimp [q, i0, i1, i19, hi, hn, hw1, hL', hw2, hwn, hwn', hn0, step_ia hgp, step_l0 hgp, step_l1 hgp, hzia, place_l0 hgz,])
            | (refine wantF_of ?_ ?_ <;> intro q <;> simp -dsimp [q, i0, i1, i19, hi, hn, hw1, hL', hw2, hwn, hwn', hn0, step_ia hgp, step_l0 hgp, step_l1 hgp, hzia, place_l0 hgz,]))
          all_goals first
            | (rw [bad 11 (by rw [hch]; simp_all [kindAt, waitsB, nextIs]; try omega) (by decide)]; done)
            | (refine fe_step iu ?_; rw [hch]; simp_all [kindAt, waitsB, nextIs]; try omega)
    · have b1' : inB st 0 pr.2.length = false := by simpa using b1
      simp -dsimp [b1']
      rw [bad 1 (by rw [hch]; simp [b1']) (by decide)]
  · simp -dsimp [hE, hI.2.2.2]
end Go.Proofs.P6
