/- Clocks and marks are right; what one mark says of a tick; both sides. -/
import Derived.Test.YtjldiihndmkpfaaDoorD3d
import Derived.Test.YtjldiihndmkpfaaDoorD2C
set_option linter.unusedVariables false
set_option linter.unusedSimpArgs false
set_option maxRecDepth 10000
set_option maxHeartbeats 4000000
namespace Go.Proofs.P4
open Go.Ex
theorem within2_ok (n lo hi : Int) : OkF Tryd.prog 33 [.int .i64 n, .int .i64 lo, .int .i64 hi] (.bool (inB n lo hi), []) := by
  refine OkF.W0 hm h33 (of_decide_eq_true rfl) ?_
  unfold c33 inB
  by_cases h : lo ≤ n <;> simp -dsimp [h]
abbrev Mark := Int × Int × Int
abbrev Clock := Int × Int
def markCd : Cd Mark := .pair ic (.pair ic ic)
def clockCd : Cd Clock := .pair ic ic
abbrev mkV (x : Mark) : V := .agg [.int .i64 x.1, .int .i64 x.2.1, .int .i64 x.2.2]
abbrev ckV (x : Clock) : V := .agg [.int .i64 x.1, .int .i64 x.2]
abbrev rM (l : List Mark) : V := .ro l.length (fl markCd l)
section
variable {h : Hp} {k : Nat} {kk : IntKind} {K : V → List Nat → Prop} {l : List Mark} {a : Mark}
theorem m_ia (e : l[k]? = some a) : iaddrK h (.ro l.length (fl markCd l)) (.int kk k) 3 K ⟨⟩ = K (.rp (fl markCd l) (k * 3)) [] := iaddr_fl rfl (by decide) e
theorem m_ld (e : l[k]? = some a) : ldA h (.rp (fl markCd l) (k * 3)) (some 3) = some (.agg [.int .i64 a.1, .int .i64 a.2.1, .int .i64 a.2.2]) := ld_fls (n := 3) rfl e
theorem m_l0 (e : l[k]? = some a) : ldA h (.rp (fl markCd l) (k * 3)) none = some (.int .i64 a.1) := ld_fl0 (n := 3) rfl (by decide) e
theorem m_l1 (e : l[k]? = some a) : ldA h (.rp (fl markCd l) (k * 3 + 1)) none = some (.int .i64 a.2.1) := ld_fl (n := 3) rfl (by decide) e
theorem m_l2 (e : l[k]? = some a) : ldA h (.rp (fl markCd l) (k * 3 + 2)) none = some (.int .i64 a.2.2) := ld_fl (n := 3) rfl (by decide) e
end
def clockE (c : Clock) : Int := if inB c.1 1 1000000 = false ∨ inB c.2 1 1000000 = false then 1 else if c.2 < c.1 then 8 else 0
def markE (l : List Mark) (k : Nat) : Int := match l[k]? with
  | none => 0
  | some x => if inB x.1 0 1000000000000 = false ∨ inB x.2.1 0 1000000000000 = false ∨ inB x.2.2 0 1000000000 = false then 1 else if before l (fun y => decide (x.1 ≤ y.1) || decide (x.2.1 ≤ y.2.1)) k = true then 8 else 0
def marksE (l : List Mark) : Int := if l.length = 0 then 9 else if 2000 < l.length then 2 else fe (markE l) l.length
theorem CheckMarks_ok (l : List Mark) : OkF Tryd.prog 44 [rM l] (.int .i64 (marksE l), []) := by
  refine OkF.W0 hm h44 (of_decide_eq_true rfl) ?_
  unfold c44
  by_cases h0 : l.length = 0
  · simp -dsimp [marksE, h0]
  have h0' : ¬ l = [] := fun h => h0 (by rw [h]; rfl)
  by_cases h1 : 2000 < l.length
  · have h1' : (2000 < (l.length : Int)) := by omega
    have e : marksE l = 2 := by unfold marksE; rw [if_neg h0, if_pos h1]
    simp -dsimp [h1', h0', e]
  have h1' : ¬ (2000 < (l.length : Int)) := by omega
  have hfe : marksE l = fe (markE l) l.length := by unfold marksE; rw [if_neg h0, if_neg h1]
  simp -dsimp [h1', h0']
  refine for_lt l.length (fun k s' => s'.t 0 = .ro l.length (fl markCd l) ∧ s'.t 13 = .ro l.length (fl markCd l) ∧ fe (markE l) k = 0) rfl (by omega) (by simp -dsimp [fe]) (by simp -dsimp) (by simp -dsimp) (fun k s' hk hI hi hn => ?_) (fun s' hI hi hn => ?_)
  · obtain ⟨i0, i1, i3⟩ := hI
    have hg : l[k]? = some l[k] := List.getElem?_eq_getElem hk
    generalize l[k] = x at hg
    obtain ⟨z, hz⟩ := prev_get hg
    have hwj : 0 < k → IntKind.i64.wrap ((k : Int) - 1) = ((k - 1 : Nat) : Int) := fun h => wrap_pred h (by omega)
    have hbp : ∀ p, 0 < k → before l p k = p z := fun p h => before_pos h (hz h)
    have bad : ∀ v, markE l k = v → v ≠ 0 → marksE l = v := fun v h1 h2 => by rw [hfe, fe_stop i3 (by rw [h1]; exact h2) hk, h1]
    have hch : markE l k = if inB x.1 0 1000000000000 = false ∨ inB x.2.1 0 1000000000000 = false ∨ inB x.2.2 0 1000000000 = false then 1 else if before l (fun y => decide (x.1 ≤ y.1) || decide (x.2.1 ≤ y.2.1)) k = true then 8 else 0 := by unfold markE; rw [hg]
    unfold k44_0
    simp -dsimp [i0, i1, hi, hn, m_ia hg, m_ld hg]
    refine call_bool (In_ok _ _ _) ?_
    simp -dsimp
    refine wantF_of ?_ ?_ <;> intro a1 <;> simp -dsimp [a1]
    case refine_2 => rw [bad 1 (by rw [hch]; simp at a1; simp [a1]) (by decide)]
    refine call_bool (In_ok _ _ _) ?_
    simp -dsimp
    refine wantF_of ?_ ?_ <;> intro a2 <;> simp -dsimp [a2]
    case refine_2 => rw [bad 1 (by rw [hch]; simp at a2; simp [a2]) (by decide)]
    refine call_bool (In_ok _ _ _) ?_
    simp -dsimp
    refine condK_of ?_ ?_ <;> intro a3 <;> simp -dsimp [a3]
    · rw [bad 1 (by rw [hch]; simp at a3; simp [a3]) (by decide)]
    simp at a1 a2 a3
    refine wantT_of ?_ ?_ <;> intro a4 <;> simp -dsimp [a4, i0]
    · have hp : 0 < k := by simpa using a4
      simp -dsimp [hwj hp, m_ia (hz hp), m_l0 (hz hp)]
      refine wantF_of ?_ ?_ <;> intro a5 <;> simp -dsimp [a5, i0]
      · simp -dsimp [hwj hp, m_ia (hz hp), m_l1 (hz hp)]
        refine condK_of ?_ ?_ <;> intro a6 <;> simp -dsimp [a6, i0, i1, hi, hn]
        · rw [bad 8 (by rw [hch, hbp _ hp]; simp [a1, a2, a3, a5, a6]) (by decide)]
        · exact fe_step i3 (by rw [hch, hbp _ hp]; simp [a1, a2, a3, a5, a6])
      · rw [bad 8 (by rw [hch, hbp _ hp]; simp [a1, a2, a3, a5]) (by decide)]
    · simp -dsimp [i0, i1, hi, hn]
      have hp : ¬ 0 < k := by simpa using a4
      exact fe_step i3 (by rw [hch, before_zero hp]; simp [a1, a2, a3])
  · simp -dsimp [hfe, hI.2.2]
theorem CheckMarksR_ok (l : List Mark) : OkF Tryd.prog 50 [rM l] (.int .i64 (marksE l), []) := by
  refine OkF.W0 hm h50 (of_decide_eq_true rfl) ?_
  unfold c50
  by_cases h0 : l.length = 0
  · simp -dsimp [marksE, h0]
  have h0' : ¬ l = [] := fun h => h0 (by rw [h]; rfl)
  by_cases h1 : 2000 < l.length
  · have h1' : (2000 < (l.length : Int)) := by omega
    have e : marksE l = 2 := by unfold marksE; rw [if_neg h0, if_pos h1]
    simp -dsimp [h1', h0', e]
  have h1' : ¬ (2000 < (l.length : Int)) := by omega
  have hfe : marksE l = fe (markE l) l.length := by unfold marksE; rw [if_neg h0, if_neg h1]
  simp -dsimp [h1', h0']
  refine loop_to 3 l.length (fun k t => t.t 3 = .int .i64 k ∧ t.t 0 = .ro l.length (fl markCd l) ∧ fe (markE l) k = 0) (fun k t h => h.1) ⟨by simp -dsimp, by simp -dsimp, rfl⟩ (fun k t hk hI => ?_)
  obtain ⟨i3, i0, iu⟩ := hI
  by_cases hlt : k < l.length
  · have hlt' : (k : Int) < (l.length : Int) := by omega
    have hg : l[k]? = some l[k] := List.getElem?_eq_getElem hlt
    have hw : IntKind.i64.wrap ((k : Int) + 1) = (k : Int) + 1 := IntWalk.i64_in _ (by omega)
    generalize l[k] = x at hg
    obtain ⟨z, hz⟩ := prev_get hg
    have hwj : 0 < k → IntKind.i64.wrap ((k : Int) - 1) = ((k - 1 : Nat) : Int) := fun h => wrap_pred h (by omega)
    have hbp : ∀ p, 0 < k → before l p k = p z := fun p h => before_pos h (hz h)
    have bad : ∀ v, markE l k = v → v ≠ 0 → marksE l = v := fun v h1 h2 => by rw [hfe, fe_stop iu (by rw [h1]; exact h2) hlt, h1]
    have hch : markE l k = if inB x.1 0 1000000000000 = false ∨ inB x.2.1 0 1000000000000 = false ∨ inB x.2.2 0 1000000000 = false then 1 else if before l (fun y => decide (x.1 ≤ y.1) || decide (x.2.1 ≤ y.2.1)) k = true then 8 else 0 := by unfold markE; rw [hg]
    unfold l50_0
    simp -dsimp [i0, i3, hlt', m_ia hg, m_l0 hg]
    refine call_bool (within2_ok _ _ _) ?_
    simp -dsimp
    refine wantF_of ?_ ?_ <;> intro a1 <;> simp -dsimp [a1, i0, i3, m_ia hg, m_l1 hg]
    case refine_2 => rw [bad 1 (by rw [hch]; simp at a1; simp [a1]) (by decide)]
    refine call_bool (within2_ok _ _ _) ?_
    simp -dsimp
    refine wantF_of ?_ ?_ <;> intro a2 <;> simp -dsimp [a2, i0, i3, m_ia hg, m_l2 hg]
    case refine_2 => rw [bad 1 (by rw [hch]; simp at a2; simp [a2]) (by decide)]
    refine call_bool (within2_ok _ _ _) ?_
    simp -dsimp
    refine condK_of ?_ ?_ <;> intro a3 <;> simp -dsimp [a3, i0, i3]
    · rw [bad 1 (by rw [hch]; simp at a3; simp [a3]) (by decide)]
    simp at a1 a2 a3
    refine wantT_of ?_ ?_ <;> intro a4 <;> simp -dsimp [a4, i0, i3, hw, m_ia hg, m_l0 hg]
    · have hp : 0 < k := by simpa using a4
      simp -dsimp [hwj hp, m_ia (hz hp), m_l0 (hz hp)]
      refine wantF_of ?_ ?_ <;> intro a5 <;> simp -dsimp [a5, i0, i3, hw, m_ia hg, m_l1 hg]
      · simp -dsimp [hwj hp, m_ia (hz hp), m_l1 (hz hp)]
        refine condK_of ?_ ?_ <;> intro a6 <;> simp -dsimp [a6, i0, i3, hw]
        · rw [bad 8 (by rw [hch, hbp _ hp]; simp [a1, a2, a3, a5, a6]) (by decide)]
        · exact ⟨by omega, fe_step iu (by rw [hch, hbp _ hp]; simp [a1, a2, a3, a5, a6])⟩
      · rw [bad 8 (by rw [hch, hbp _ hp]; simp [a1, a2, a3, a5]) (by decide)]
    · have hp : ¬ 0 < k := by simpa using a4
      exact ⟨by omega, fe_step iu (by rw [hch, before_zero hp]; simp [a1, a2, a3])⟩
  · have hkl : k = l.length := by omega
    subst hkl
    unfold l50_0
    simp -dsimp [i3, i0, hfe, iu]
structure MarkOk (x : Mark) : Prop where
  t0 : 0 ≤ x.1
  t1 : x.1 ≤ 1000000000000
  m0 : 0 ≤ x.2.1
  m1 : x.2.1 ≤ 1000000000000
  o0 : 0 ≤ x.2.2
  o1 : x.2.2 ≤ 1000000000
structure MarksOk (l : List Mark) : Prop where
  pos : 0 < l.length
  most : l.length ≤ 2000
  ok : ∀ x ∈ l, MarkOk x
  inc : ∀ (k : Nat) x y, l[k]? = some x → l[k + 1]? = some y → x.1 < y.1 ∧ x.2.1 < y.2.1
theorem marks_good {l : List Mark} (h : marksE l = 0) : MarksOk l := by
  unfold marksE at h
  split at h
  · cases h
  split at h
  · cases h
  rename_i h1 h2
  refine ⟨by omega, by omega, fun x hx => ?_, fun k x y hx hy => ?_⟩
  · obtain ⟨i, hi⟩ := List.getElem?_of_mem hx
    have := fe_zero h i (List.getElem?_eq_some_iff.1 hi).1
    unfold markE at this
    rw [hi] at this
    simp only at this
    split at this
    · cases this
    rename_i a1
    simp only [not_or, Bool.not_eq_false] at a1
    simp [inB] at a1
    exact ⟨by omega, by omega, by omega, by omega, by omega, by omega⟩
  · have := fe_zero h (k + 1) (List.getElem?_eq_some_iff.1 hy).1
    unfold markE at this
    rw [hy] at this
    simp only at this
    split at this
    · cases this
    split at this
    · cases this
    rename_i a2
    simp only [before, hx] at a2
    simp at a2
    omega
theorem marks_mk {l : List Mark} (h : MarksOk l) : marksE l = 0 := by
  unfold marksE
  have := h.pos; have := h.most
  rw [if_neg (by omega), if_neg (by omega)]
  have key : ∀ n, fe (markE l) n = 0 := by
    intro n
    induction n with
    | zero => rfl
    | succ n ih =>
      refine fe_step ih ?_
      unfold markE
      split
      · rfl
      · rename_i x hx
        have ok := h.ok x (List.mem_of_getElem? hx)
        rw [if_neg (by have := ok.t0; have := ok.t1; have := ok.m0; have := ok.m1; have := ok.o0; have := ok.o1; simp [inB]; omega)]
        cases n with
        | zero => simp [before]
        | succ n =>
          have hn := (List.getElem?_eq_some_iff.1 hx).1
          have hy : l[n]? = some (l[n]'(by omega)) := List.getElem?_eq_getElem (by omega)
          have := h.inc n _ _ hy hx
          simp only [before, hy]
          simp
          omega
  exact key _
def up (n : Int) : Int := -((-n) / 1000000)
/-- From when to when the time at a tick can be. -/
def byS (c : Clock) (x : Mark) (tick : Int) : Int × Int :=
  if 0 ≤ tick - x.1 then (x.2.1 - x.2.2 + (tick - x.1) * c.1 / 1000000, x.2.1 + x.2.2 + up ((tick - x.1) * c.2))
  else (x.2.1 - x.2.2 - up ((x.1 - tick) * c.2), x.2.1 + x.2.2 - (x.1 - tick) * c.1 / 1000000)
theorem tdiv_nn {n : Int} (h : 0 ≤ n) : n.tdiv 1000000 = n / 1000000 := Int.tdiv_eq_ediv_of_nonneg h
structure ClockOk (c : Clock) : Prop where
  s0 : 1 ≤ c.1
  s1 : c.1 ≤ 1000000
  f0 : 1 ≤ c.2
  f1 : c.2 ≤ 1000000
  sf : c.1 ≤ c.2
theorem clock_good {c : Clock} (h : clockE c = 0) : ClockOk c := by
  unfold clockE at h
  split at h
  · cases h
  rename_i a1
  split at h
  · cases h
  rename_i a2
  simp only [not_or, Bool.not_eq_false] at a1
  simp [inB] at a1
  exact ⟨by omega, by omega, by omega, by omega, by omega⟩
theorem mul_rng {d s : Int} (h0 : 0 ≤ d) (h1 : d ≤ 1000000000000) (h2 : 1 ≤ s) (h3 : s ≤ 1000000) : 0 ≤ d * s ∧ d * s ≤ 1000000000000000000 :=
  ⟨Int.mul_nonneg h0 (by omega), Int.le_trans (Int.mul_le_mul_of_nonneg_right h1 (by omega)) (Int.mul_le_mul_of_nonneg_left h3 (by omega))⟩
end Go.Proofs.P4

