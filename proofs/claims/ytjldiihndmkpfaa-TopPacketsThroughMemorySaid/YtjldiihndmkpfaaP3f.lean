/- Flips and rounds: what they are in plain lists; their checks, both sides. -/
import Derived.Test.YtjldiihndmkpfaaP3e
import Derived.Test.YtjldiihndmkpfaaP3D
set_option linter.unusedVariables false
set_option linter.unusedSimpArgs false
set_option maxRecDepth 10000
set_option maxHeartbeats 4000000
namespace Go.Proofs.P3
open Go.Ex
abbrev Flip := Int × Int × Int
abbrev Scrub := Int × Int × Int × Int
def flipCd : Cd Flip := .pair ic (.pair ic ic)
def scrCd : Cd Scrub := .pair ic (.pair ic (.pair ic ic))
abbrev rF (l : List Flip) : V := .ro l.length (fl flipCd l)
abbrev rS (l : List Scrub) : V := .ro l.length (fl scrCd l)
def roundCd : Cd (Int × Int) := .pair ic ic
abbrev rdV (r : Int × Int) : V := .agg [.int .i64 r.1, .int .i64 r.2]
section
variable {h : Hp} {k : Nat} {kk : IntKind} {K : V → List Nat → Prop} {l : List Flip} {a : Flip}
theorem f_ia (e : l[k]? = some a) : iaddrK h (.ro l.length (fl flipCd l)) (.int kk k) 3 K ⟨⟩ = K (.rp (fl flipCd l) (k * 3)) [] := iaddr_fl rfl (by decide) e
theorem f_ld (e : l[k]? = some a) : ldA h (.rp (fl flipCd l) (k * 3)) (some 3) = some (.agg [.int .i64 a.1, .int .i64 a.2.1, .int .i64 a.2.2]) := ld_fls (n := 3) rfl e
theorem f_l0 (e : l[k]? = some a) : ldA h (.rp (fl flipCd l) (k * 3)) none = some (.int .i64 a.1) := ld_fl0 (n := 3) rfl (by decide) e
theorem f_l1 (e : l[k]? = some a) : ldA h (.rp (fl flipCd l) (k * 3 + 1)) none = some (.int .i64 a.2.1) := ld_fl (n := 3) rfl (by decide) e
theorem f_l2 (e : l[k]? = some a) : ldA h (.rp (fl flipCd l) (k * 3 + 2)) none = some (.int .i64 a.2.2) := ld_fl (n := 3) rfl (by decide) e
end
def flipE1 (n : Nat) (l : List Flip) (k : Nat) : Int := match l[k]? with
  | none => 0
  | some x => if inB x.1 0 1000000000000 = false then 1 else if inB x.2.1 0 ((n : Int) - 1) = false then 9 else if inB x.2.2 1 22 = false then 1 else if before l (fun y => decide (x.1 < y.1)) k = true then 8 else 0
def flipsE (b : Bank) (l : List Flip) : Int := if bankE b ≠ 0 then bankE b else if 2000 < l.length then 2 else fe (flipE1 b.1.length l) l.length
structure FlipOk (n : Nat) (x : Flip) : Prop where
  at0 : 0 ≤ x.1
  at1 : x.1 ≤ 1000000000000
  p0 : 0 ≤ x.2.1
  p1 : x.2.1 < n
  b0 : 1 ≤ x.2.2
  b1 : x.2.2 ≤ 22
theorem flips_good {b : Bank} {l : List Flip} (h : flipsE b l = 0) : BankOk b ∧ l.length ≤ 2000 ∧ ∀ x ∈ l, FlipOk b.1.length x := by
  unfold flipsE at h
  split at h
  · rename_i q; exact absurd h q
  split at h
  · cases h
  rename_i q q2
  refine ⟨bank_good (by simpa using q), by omega, fun x hx => ?_⟩
  obtain ⟨i, hi⟩ := List.getElem?_of_mem hx
  have := fe_zero h i (List.getElem?_eq_some_iff.1 hi).1
  unfold flipE1 at this
  rw [hi] at this
  simp only at this
  split at this
  · cases this
  split at this
  · cases this
  split at this
  · cases this
  rename_i a1 a2 a3
  simp [inB] at a1 a2 a3
  exact ⟨by omega, by omega, by omega, by omega, by omega, by omega⟩
theorem CheckFlips_ok (b : Bank) (l : List Flip) : OkF Try.prog 44 [bkV b, rF l] (.int .i64 (flipsE b l), []) := by
  refine OkF.W0 hm h44 (of_decide_eq_true rfl) ?_
  unfold c44
  simp -dsimp
  refine call_pure (CheckBank_ok b) (by simp) rfl ?_
  simp -dsimp
  refine condK_of ?_ ?_ <;> intro q <;> simp -dsimp
  · have q' : bankE b ≠ 0 := by simpa using q
    simp [flipsE, q']
  have q' : bankE b = 0 := by simpa using q
  have gb := bank_good q'
  have mb := gb.most
  refine condK_of ?_ ?_ <;> intro q1 <;> simp -dsimp
  · have q1' : 2000 < l.length := by simp at q1; omega
    simp [flipsE, q', q1']
  have q1' : ¬ 2000 < l.length := by simp at q1; omega
  have hfe : flipsE b l = fe (flipE1 b.1.length l) l.length := by unfold flipsE; rw [if_neg (by simpa using q'), if_neg q1']
  refine for_lt l.length (fun k t => t.t 1 = rF l ∧ t.t 2 = .pt 0 0 0 ∧ 1 ≤ t.nx ∧ t.h 0 = some ⟨0, 0, [rI b.1, rI b.2], none⟩ ∧ t.t 16 = rF l ∧ fe (flipE1 b.1.length l) k = 0) rfl (by omega) (by simp -dsimp [fe]) (by simp -dsimp) (by simp -dsimp) (fun k t hk hI hi hn => ?_) (fun t hI hi hn => ?_)
  · obtain ⟨i1, i2, inx, h0, i16, iu⟩ := hI
    have hg : l[k]? = some l[k] := List.getElem?_eq_getElem hk
    generalize l[k] = x at hg
    obtain ⟨z, hz⟩ := prev_get hg
    have hwk : 0 < k → IntKind.i64.wrap ((k : Int) - 1) = ((k - 1 : Nat) : Int) := fun h => wrap_pred h (by omega)
    have hbp : ∀ p, 0 < k → before l p k = p z := fun p h => before_pos h (hz h)
    have bad : ∀ v, flipE1 b.1.length l k = v → v ≠ 0 → flipsE b l = v := fun v h1 h2 => by rw [hfe, fe_stop iu (by rw [h1]; exact h2) hk, h1]
    have hch : flipE1 b.1.length l k = if inB x.1 0 1000000000000 = false then 1 else if inB x.2.1 0 ((b.1.length : Int) - 1) = false then 9 else if inB x.2.2 1 22 = false then 1 else if before l (fun y => decide (x.1 < y.1)) k = true then 8 else 0 := by unfold flipE1; rw [hg]
    have n0 : ¬ 0 = t.nx := by omega
    have hwl : IntKind.i64.wrap ((b.1.length : Int) - 1) = (b.1.length : Int) - 1 := w_i64 (by omega) (by omega)
    unfold k44_0
    simp -dsimp [i1, i2, i16, h0, hi, hn, f_ia hg, f_ld hg]
    refine call_pure (In_ok _ _ _) (by simp) rfl ?_
    simp -dsimp
    refine condK_of ?_ ?_ <;> intro a1 <;> simp -dsimp [i2, h0, n0, hwl]
    · rw [bad 1 (by rw [hch]; simp at a1; simp [a1]) (by decide)]
    refine call_pure (In_ok _ _ _) (by simp) rfl ?_
    simp -dsimp
    refine condK_of ?_ ?_ <;> intro a2 <;> simp -dsimp
    · rw [bad 9 (by rw [hch]; simp at a1 a2; simp [a1, a2]) (by decide)]
    refine call_pure (In_ok _ _ _) (by simp) rfl ?_
    simp -dsimp
    refine condK_of ?_ ?_ <;> intro a3 <;> simp -dsimp
    · rw [bad 1 (by rw [hch]; simp at a1 a2 a3; simp [a1, a2, a3]) (by decide)]
    simp at a1 a2 a3
    refine wantT_of ?_ ?_ <;> intro a4 <;> simp -dsimp [a4, i1]
    · have hp : 0 < k := by simpa using a4
      simp -dsimp [hwk hp, f_ia (hz hp), f_l0 (hz hp)]
      refine condK_of ?_ ?_ <;> intro a5 <;> simp -dsimp [i1, i2, i16, hi, hn, h0, n0]
      · rw [bad 8 (by rw [hch, hbp _ hp]; simp at a5; simp [a1, a2, a3, a5]) (by decide)]
      · exact fe_step iu (by rw [hch, hbp _ hp]; simp at a5; simp [a1, a2, a3, a5])
    · have hp : ¬ 0 < k := by simpa using a4
      simp -dsimp [i1, i2, i16, hi, hn, h0, n0]
      exact fe_step iu (by rw [hch, before_zero hp]; simp [a1, a2, a3])
  · simp -dsimp [hfe, hI.2.2.2.2.2]
theorem isPlace_ok (b : Bank) (x : Int) (hb : b.1.length ≤ 2000) : OkF Try.prog 94 [bkV b, .int .i64 x] (.bool (inB x 0 ((b.1.length : Int) - 1)), []) := by
  refine OkF.W0 hm h94 (of_decide_eq_true rfl) ?_
  unfold c94
  have hwl : IntKind.i64.wrap ((b.1.length : Int) - 1) = (b.1.length : Int) - 1 := w_i64 (by omega) (by omega)
  simp -dsimp [hwl]
  refine call_pure (within_ok _ _ _) (by simp) rfl ?_
  simp -dsimp
theorem CheckFlipsR_ok (b : Bank) (l : List Flip) : OkF Try.prog 45 [bkV b, rF l] (.int .i64 (flipsE b l), []) := by
  refine OkF.W0 hm h45 (of_decide_eq_true rfl) ?_
  unfold c45
  simp -dsimp
  refine call_pure (CheckBankR_ok b) (by simp) rfl ?_
  simp -dsimp
  refine condK_of ?_ ?_ <;> intro q <;> simp -dsimp
  · have q' : bankE b ≠ 0 := by simpa using q
    simp [flipsE, q']
  have q' : bankE b = 0 := by simpa using q
  have gb := bank_good q'
  have mb := gb.most
  refine condK_of ?_ ?_ <;> intro q1 <;> simp -dsimp
  · have q1' : 2000 < l.length := by simp at q1; omega
    simp [flipsE, q', q1']
  have q1' : ¬ 2000 < l.length := by simp at q1; omega
  have hfe : flipsE b l = fe (flipE1 b.1.length l) l.length := by unfold flipsE; rw [if_neg (by simpa using q'), if_neg q1']
  refine for_lt l.length (fun k t => t.t 1 = rF l ∧ t.t 2 = .pt 0 0 0 ∧ 1 ≤ t.nx ∧ t.h 0 = some ⟨0, 0, [rI b.1, rI b.2], none⟩ ∧ t.t 16 = rF l ∧ fe (flipE1 b.1.length l) k = 0) rfl (by omega) (by simp -dsimp [fe]) (by simp -dsimp) (by simp -dsimp) (fun k t hk hI hi hn => ?_) (fun t hI hi hn => ?_)
  · obtain ⟨i1, i2, inx, h0, i16, iu⟩ := hI
    have hg : l[k]? = some l[k] := List.getElem?_eq_getElem hk
    generalize l[k] = x at hg
    obtain ⟨z, hz⟩ := prev_get hg
    have hwk : 0 < k → IntKind.i64.wrap ((k : Int) - 1) = ((k - 1 : Nat) : Int) := fun h => wrap_pred h (by omega)
    have hbp : ∀ p, 0 < k → before l p k = p z := fun p h => before_pos h (hz h)
    have bad : ∀ v, flipE1 b.1.length l k = v → v ≠ 0 → flipsE b l = v := fun v h1 h2 => by rw [hfe, fe_stop iu (by rw [h1]; exact h2) hk, h1]
    have hch : flipE1 b.1.length l k = if inB x.1 0 1000000000000 = false then 1 else if inB x.2.1 0 ((b.1.length : Int) - 1) = false then 9 else if inB x.2.2 1 22 = false then 1 else if before l (fun y => decide (x.1 < y.1)) k = true then 8 else 0 := by unfold flipE1; rw [hg]
    have n0 : ¬ 0 = t.nx := by omega
    unfold k45_0
    simp -dsimp [i1, i2, i16, h0, hi, hn, f_ia hg, f_ld hg]
    refine call_pure (within_ok _ _ _) (by simp) rfl ?_
    simp -dsimp
    refine condK_of ?_ ?_ <;> intro a1 <;> simp -dsimp [i2, h0, n0]
    · rw [bad 1 (by rw [hch]; simp at a1; simp [a1]) (by decide)]
    refine call_pure (isPlace_ok b x.2.1 mb) (by simp) rfl ?_
    simp -dsimp
    refine condK_of ?_ ?_ <;> intro a2 <;> simp -dsimp
    · rw [bad 9 (by rw [hch]; simp at a1 a2; simp [a1, a2]) (by decide)]
    refine call_pure (within_ok _ _ _) (by simp) rfl ?_
    simp -dsimp
    refine condK_of ?_ ?_ <;> intro a3 <;> simp -dsimp
    · rw [bad 1 (by rw [hch]; simp at a1 a2 a3; simp [a1, a2, a3]) (by decide)]
    simp at a1 a2 a3
    refine wantT_of ?_ ?_ <;> intro a4 <;> simp -dsimp [a4, i1]
    · have hp : 0 < k := by simpa using a4
      simp -dsimp [hwk hp, f_ia (hz hp), f_l0 (hz hp)]
      refine condK_of ?_ ?_ <;> intro a5 <;> simp -dsimp [i1, i2, i16, hi, hn, h0, n0]
      · rw [bad 8 (by rw [hch, hbp _ hp]; simp at a5; simp [a1, a2, a3, a5]) (by decide)]
      · exact fe_step iu (by rw [hch, hbp _ hp]; simp at a5; simp [a1, a2, a3, a5])
    · have hp : ¬ 0 < k := by simpa using a4
      simp -dsimp [i1, i2, i16, hi, hn, h0, n0]
      exact fe_step iu (by rw [hch, before_zero hp]; simp [a1, a2, a3])
  · simp -dsimp [hfe, hI.2.2.2.2.2]
/-- What rounds are asked. -/
def askE (b : Bank) (r : Int × Int) (l : List Flip) (u : Int) : Int :=
  if flipsE b l ≠ 0 then flipsE b l else if inB r.1 1 1000000000000 = false ∨ inB r.2 1 5000 = false ∨ inB u 0 1000000000000 = false then 1 else if 1000000 < u / r.1 * r.2 then 2 else 0
theorem toRO4 {h : Hp} {id : Nat} {x y z w : Int} : toRO (upd h id (some ⟨0, 1, [.int .i64 x, .int .i64 y, .int .i64 z, .int .i64 w], none⟩)) 8 (.sl id 0 0 4 (some 4)) = some (rI [x, y, z, w]) := by
  simp [toRO, cellRO, upd, fl]
theorem checkRound_ok (b : Bank) (r : Int × Int) (l : List Flip) (u : Int) : OkF Try.prog 89 [bkV b, rdV r, rF l, .int .i64 u] (.int .i64 (askE b r l u), []) := by
  refine OkF.W0 hm h89 (of_decide_eq_true rfl) ?_
  unfold c89
  obtain ⟨ev, mn⟩ := r
  have hf := First_ok [flipsE b l, rngE ev 1 1000000000000, rngE mn 1 5000, rngE u 0 1000000000000] (by simp)
  simp -dsimp
  refine call_pure (CheckFlips_ok b l) (by simp) rfl ?_
  simp -dsimp
  refine call_pure (Range_ok _ _ _) (by simp) rfl ?_
  simp -dsimp
  refine call_pure (Range_ok _ _ _) (by simp) rfl ?_
  simp -dsimp
  refine call_pure (Range_ok _ _ _) (by simp) rfl ?_
  simp -dsimp [fillA, toRO4]
  refine call_int hf ?_
  have hF : firstE [flipsE b l, rngE ev 1 1000000000000, rngE mn 1 5000, rngE u 0 1000000000000] = if flipsE b l ≠ 0 then flipsE b l else if inB ev 1 1000000000000 = false ∨ inB mn 1 5000 = false ∨ inB u 0 1000000000000 = false then 1 else 0 := by
    simp only [firstE, rngE]
    by_cases a0 : flipsE b l = 0 <;> simp only [a0, ne_eq, not_true, not_false_iff, if_true, if_false]
    by_cases x1 : inB ev 1 1000000000000 = true <;> by_cases x2 : inB mn 1 5000 = true <;> by_cases x3 : inB u 0 1000000000000 = true <;> simp [x1, x2, x3]
  rw [hF]
  simp -dsimp
  by_cases a0 : flipsE b l = 0
  · by_cases a1 : inB ev 1 1000000000000 = false ∨ inB mn 1 5000 = false ∨ inB u 0 1000000000000 = false
    · have e : askE b (ev, mn) l u = 1 := by unfold askE; rw [if_neg (by simpa using a0), if_pos a1]
      simp -dsimp [a0, a1, e]
    · have b1 : 1 ≤ ev ∧ ev ≤ 1000000000000 ∧ 1 ≤ mn ∧ mn ≤ 5000 ∧ 0 ≤ u ∧ u ≤ 1000000000000 := by
        simp only [not_or, Bool.not_eq_false] at a1
        simp [inB] at a1
        omega
      have e : askE b (ev, mn) l u = if 1000000 < u / ev * mn then 2 else 0 := by unfold askE; rw [if_neg (by simpa using a0), if_neg a1]
      have d0 : ¬ ev = 0 := by omega
      have d1 : u.tdiv ev = u / ev := Int.tdiv_eq_ediv_of_nonneg (by omega)
      have q0 : 0 ≤ u / ev := Int.ediv_nonneg (by omega) (by omega)
      have q1 : u / ev ≤ 1000000000000 := Int.le_trans (Int.ediv_le_self _ (by omega)) (by omega)
      have q2 : 0 ≤ u / ev * mn := Int.mul_nonneg q0 (by omega)
      have q3 : u / ev * mn ≤ 1000000000000 * 5000 := Int.le_trans (Int.mul_le_mul_of_nonneg_right q1 (by omega)) (Int.mul_le_mul_of_nonneg_left (by omega) (by omega))
      have w1 : IntKind.i64.wrap (u / ev) = u / ev := w_i64 (by omega) (by omega)
      have w2 : IntKind.i64.wrap (u / ev * mn) = u / ev * mn := w_i64 (by omega) (by omega)
      simp -dsimp [a0, a1, e, d0, d1, w1, w2]
      by_cases a2 : 1000000 < u / ev * mn <;> simp -dsimp [a2, e]
  · have e : askE b (ev, mn) l u = flipsE b l := by unfold askE; rw [if_pos (by simpa using a0)]
    simp -dsimp [a0, e]
theorem ask_ok (b : Bank) (r : Int × Int) (l : List Flip) (u : Int) : OkF Try.prog 91 [bkV b, rdV r, rF l, .int .i64 u] (.int .i64 (askE b r l u), []) := by
  refine OkF.W0 hm h91 (of_decide_eq_true rfl) ?_
  unfold c91
  obtain ⟨ev, mn⟩ := r
  simp -dsimp
  refine call_pure (CheckFlipsR_ok b l) (by simp) rfl ?_
  simp -dsimp
  by_cases a0 : flipsE b l = 0
  · simp -dsimp [a0]
    refine call_pure (within_ok _ _ _) (by simp) rfl ?_
    simp -dsimp
    have one : inB ev 1 1000000000000 = false ∨ inB mn 1 5000 = false ∨ inB u 0 1000000000000 = false → askE b (ev, mn) l u = 1 := fun a1 => by unfold askE; rw [if_neg (by simpa using a0), if_pos a1]
    cases a1 : inB ev 1 1000000000000 with
    | false => simp -dsimp [one (.inl a1)]
    | true =>
    simp -dsimp
    refine call_pure (within_ok _ _ _) (by simp) rfl ?_
    simp -dsimp
    cases a2 : inB mn 1 5000 with
    | false => simp -dsimp [one (.inr (.inl a2))]
    | true =>
    simp -dsimp
    refine call_pure (within_ok _ _ _) (by simp) rfl ?_
    simp -dsimp
    cases a3 : inB u 0 1000000000000 with
    | false => simp -dsimp [one (.inr (.inr a3))]
    | true =>
    have b1 : 1 ≤ ev ∧ ev ≤ 1000000000000 ∧ 1 ≤ mn ∧ mn ≤ 5000 ∧ 0 ≤ u ∧ u ≤ 1000000000000 := by
      simp [inB] at a1 a2 a3
      omega
    have e : askE b (ev, mn) l u = if 1000000 < u / ev * mn then 2 else 0 := by unfold askE; rw [if_neg (by simpa using a0), if_neg (by simp [a1, a2, a3])]
    have d0 : ¬ ev = 0 := by omega
    have d0' : ¬ mn = 0 := by omega
    have d1 : u.tdiv ev = u / ev := Int.tdiv_eq_ediv_of_nonneg (by omega)
    have d2 : (1000000 : Int).tdiv mn = 1000000 / mn := Int.tdiv_eq_ediv_of_nonneg (by omega)
    have q0 : 0 ≤ u / ev := Int.ediv_nonneg (by omega) (by omega)
    have q1 : u / ev ≤ 1000000000000 := Int.le_trans (Int.ediv_le_self _ (by omega)) (by omega)
    have w1 : IntKind.i64.wrap (u / ev) = u / ev := w_i64 (by omega) (by omega)
    have q4 : 0 ≤ 1000000 / mn := Int.ediv_nonneg (by omega) (by omega)
    have q5 : 1000000 / mn ≤ 1000000 := Int.ediv_le_self _ (by omega)
    have w2 : IntKind.i64.wrap (1000000 / mn) = 1000000 / mn := w_i64 (by omega) (by omega)
    have key : 1000000 / mn < u / ev ↔ 1000000 < u / ev * mn := Int.ediv_lt_iff_lt_mul (by omega)
    simp -dsimp [d0, d0', d1, d2, w1, w2]
    by_cases a2 : 1000000 < u / ev * mn
    · have := key.2 a2
      simp -dsimp [this, e, a2]
    · have : ¬ 1000000 / mn < u / ev := fun h => a2 (key.1 h)
      simp -dsimp [this, e, a2]
  · have e : askE b (ev, mn) l u = flipsE b l := by unfold askE; rw [if_pos (by simpa using a0)]
    simp -dsimp [a0, e]
end Go.Proofs.P3
