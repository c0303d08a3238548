/- Windows and clashes of both sides; the law. -/
import Derived.Test.YtjldiihndmkpfaaP2a
set_option linter.unusedVariables false
set_option linter.unusedSimpArgs false
set_option maxRecDepth 10000
set_option maxHeartbeats 4000000
namespace Go.Proofs.P3
open Go.Ex
theorem toRO3' {h : Hp} {id : Nat} {x y z : Int} : toRO (upd h id (some ⟨0, 1, [.int .i64 x, .int .i64 y, .int .i64 z], none⟩)) 8 (.sl id 0 0 3 (some 3)) = some (rI [x, y, z]) := by
  simp [toRO, cellRO, upd, fl]
def mAt (l : List Mark) (k : Nat) : Mark := (l[k]?).getD (0, 0, 0)
theorem get_mAt {l : List Mark} {k : Nat} (h : k < l.length) : l[k]? = some (mAt l k) := by unfold mAt; rw [List.getElem?_eq_getElem h]; rfl
theorem mAt_mem {l : List Mark} {k : Nat} (h : k < l.length) : mAt l k ∈ l := List.mem_of_getElem? (get_mAt h)
def winN (c : Clock) (l : List Mark) (tick : Int) : Nat → Int × Int
  | 0 => byS c (mAt l 0) tick
  | k + 1 => (max (winN c l tick k).1 (byS c (mAt l k) tick).1, min (winN c l tick k).2 (byS c (mAt l k) tick).2)
def winE (c : Clock) (l : List Mark) (tick : Int) : Int := if clockE c ≠ 0 then clockE c else if marksE l ≠ 0 then marksE l else if inB tick 0 1000000000000 = false then 1 else 0
def winS (c : Clock) (l : List Mark) (tick : Int) : Int × Int × Int :=
  if winE c l tick ≠ 0 then (0, 0, winE c l tick) else if (winN c l tick l.length).2 < (winN c l tick l.length).1 then (0, 0, 12) else ((winN c l tick l.length).1, (winN c l tick l.length).2, 0)
theorem winE_good {c : Clock} {l : List Mark} {tick : Int} (h : winE c l tick = 0) : ClockOk c ∧ MarksOk l ∧ 0 ≤ tick ∧ tick ≤ 1000000000000 := by
  unfold winE at h
  split at h
  · rename_i q; exact absurd h q
  rename_i q1
  split at h
  · rename_i q; exact absurd h q
  rename_i q2
  split at h
  · cases h
  rename_i q3
  simp only [Bool.not_eq_false] at q3
  simp [inB] at q3
  exact ⟨clock_good (by simpa using q1), marks_good (by simpa using q2), q3.1, q3.2⟩
theorem Window_ok (c : Clock) (l : List Mark) (tick : Int) : OkF Try.prog 19 [ckV c, rM l, .int .i64 tick] (.tup [.int .i64 (winS c l tick).1, .int .i64 (winS c l tick).2.1, .int .i64 (winS c l tick).2.2], []) := by
  refine OkF.W0 hm h19 (of_decide_eq_true rfl) ?_
  unfold c19
  have hf := First_ok [clockE c, marksE l, rngE tick 0 1000000000000] (by simp)
  have hF : firstE [clockE c, marksE l, rngE tick 0 1000000000000] = winE c l tick := by
    unfold winE
    simp only [firstE, rngE]
    by_cases a0 : clockE c = 0 <;> by_cases a1 : marksE l = 0 <;> by_cases x2 : inB tick 0 1000000000000 = true <;> simp [a0, a1, x2]
  rw [hF] at hf
  simp -dsimp
  refine call_pure (CheckClock_ok c) (by simp) rfl ?_
  simp -dsimp
  refine call_pure (CheckMarks_ok l) (by simp) rfl ?_
  simp -dsimp
  refine call_pure (Range_ok _ _ _) (by simp) rfl ?_
  simp -dsimp [fillA, toRO3']
  refine call_int hf ?_
  simp -dsimp
  by_cases q : winE c l tick = 0
  · obtain ⟨hc, hM, t0, t1⟩ := winE_good q
    have hp := hM.pos; have hmo := hM.most
    have hg0 := get_mAt hp
    have hia0 : ∀ h K, iaddrK h (.ro l.length (fl markCd l)) (.int .i64 0) 3 K ⟨⟩ = K (.rp (fl markCd l) 0) [] := fun h K => by
      have := m_ia (h := h) (kk := .i64) (K := K) hg0
      simpa using this
    have hld0 : ∀ h, ldA h (.rp (fl markCd l) 0) (some 3) = some (mkV (mAt l 0)) := fun h => by
      have := m_ld (h := h) hg0
      simpa using this
    simp -dsimp [q, hia0, hld0]
    refine call_pure (by_ok hc (hM.ok _ (mAt_mem hp)) t0 t1) (by simp) (by simp) ?_
    have hsl := slc_ro_lo (d := markCd) (esz := 3) (kk := .i64) (l := l) (n := 1) rfl (by omega)
    have e1 : ∀ (K : V → Hp → Nat → Option (List Nat) → Option (List Nat) → Prop), ∀ h nx, slcK false (.ro l.length (fl markCd l)) (some (.int .i64 1)) none 3 h nx K ⟨⟩ = K (rM (l.drop 1)) h nx (some []) (some []) := fun K h nx => slcK_ro (v := rM (l.drop 1)) hsl
    have hdl : (l.drop 1).length = l.length - 1 := by simp
    have hdg : ∀ k, (l.drop 1)[k]? = l[k + 1]? := fun k => by rw [List.getElem?_drop, Nat.add_comm]
    generalize hd : l.drop 1 = d at *
    simp -dsimp [e1]
    refine for_lt d.length (fun k t => t.t 3 = .pt 0 0 0 ∧ t.t 2 = .int .i64 tick ∧ t.t 37 = rM d ∧ t.t 10 = .int .i64 (winN c l tick (k + 1)).1 ∧ t.t 11 = .int .i64 (winN c l tick (k + 1)).2 ∧ 1 ≤ t.nx ∧ t.h 0 = some ⟨0, 0, [.int .i64 c.1, .int .i64 c.2], none⟩) rfl (by omega) ?_ (by simp -dsimp) (by simp -dsimp) (fun k t hk hI hi hn => ?_) (fun t hI hi hn => ?_)
    · simp -dsimp [winN]
    · obtain ⟨i3, i2, i37, i10, i11, inx, h0⟩ := hI
      have hg : d[k]? = some (mAt l (k + 1)) := by rw [hdg]; exact get_mAt (by omega)
      have hxo := hM.ok _ (mAt_mem (l := l) (k := k + 1) (by omega))
      have hw : winN c l tick (k + 1 + 1) = (max (winN c l tick (k + 1)).1 (byS c (mAt l (k + 1)) tick).1, min (winN c l tick (k + 1)).2 (byS c (mAt l (k + 1)) tick).2) := rfl
      have n0 : ¬ 0 = t.nx := by omega
      unfold k19_0
      simp -dsimp [i3, i2, i37, i10, i11, hi, hn, h0, m_ia hg, m_ld hg, n0]
      refine call_pure (by_ok hc hxo t0 t1) (by simp) (by simp) ?_
      simp -dsimp [i3, i2, i37, i10, i11, hi, hn, h0, n0, hw]
    · obtain ⟨i3, i2, i37, i10, i11, inx, h0⟩ := hI
      have hl1 : d.length + 1 = l.length := by omega
      rw [hl1] at i10 i11
      have hE : winS c l tick = if (winN c l tick l.length).2 < (winN c l tick l.length).1 then (0, 0, 12) else ((winN c l tick l.length).1, (winN c l tick l.length).2, 0) := by unfold winS; rw [if_neg (by simpa using q)]
      rw [hE]
      by_cases q2 : (winN c l tick l.length).2 < (winN c l tick l.length).1 <;> simp -dsimp [i10, i11, q2]
  · have hE : winS c l tick = (0, 0, winE c l tick) := by unfold winS; rw [if_pos q]
    simp -dsimp [q, hE]
theorem winN_one (c : Clock) (l : List Mark) (tick : Int) : winN c l tick 1 = winN c l tick 0 := by
  simp [winN]
theorem WindowR_ok (c : Clock) (l : List Mark) (tick : Int) : OkF Try.prog 21 [ckV c, rM l, .int .i64 tick] (.tup [.int .i64 (winS c l tick).1, .int .i64 (winS c l tick).2.1, .int .i64 (winS c l tick).2.2], []) := by
  refine OkF.W0 hm h21 (of_decide_eq_true rfl) ?_
  unfold c21
  simp -dsimp
  refine call_pure (checkBoth_ok c l) (by simp) rfl ?_
  simp -dsimp
  have bad : ∀ v, winE c l tick = v → v ≠ 0 → winS c l tick = (0, 0, v) := fun v h1 h2 => by unfold winS; rw [h1, if_pos h2]
  by_cases a0 : clockE c = 0
  rotate_left
  · have e := bad (clockE c) (by unfold winE; rw [if_pos a0]) a0
    simp -dsimp [a0, e]
  by_cases a1 : marksE l = 0
  rotate_left
  · have e := bad (marksE l) (by unfold winE; rw [if_neg (by simpa using a0), if_pos a1]) a1
    simp -dsimp [a0, a1, e]
  simp -dsimp [a0, a1]
  refine call_pure (within2_ok _ _ _) (by simp) rfl ?_
  simp -dsimp
  cases a2 : inB tick 0 1000000000000 with
  | false =>
    have e := bad 1 (by unfold winE; rw [if_neg (by simpa using a0), if_neg (by simpa using a1), if_pos a2]) (by decide)
    simp -dsimp [e]
  | true =>
  have q : winE c l tick = 0 := by unfold winE; rw [if_neg (by simpa using a0), if_neg (by simpa using a1), if_neg (by rw [a2]; decide)]
  obtain ⟨hc, hM, t0, t1⟩ := winE_good q
  have hp := hM.pos; have hmo := hM.most
  have hg0 := get_mAt hp
  have hia0 : ∀ h K, iaddrK h (.ro l.length (fl markCd l)) (.int .i64 0) 3 K ⟨⟩ = K (.rp (fl markCd l) 0) [] := fun h K => by
    have := m_ia (h := h) (kk := .i64) (K := K) hg0
    simpa using this
  have hld0 : ∀ h, ldA h (.rp (fl markCd l) 0) (some 3) = some (mkV (mAt l 0)) := fun h => by
    have := m_ld (h := h) hg0
    simpa using this
  simp -dsimp [hia0, hld0]
  refine call_pure (windowOf_ok hc (hM.ok _ (mAt_mem hp)) t0 t1) (by simp) (by simp) ?_
  simp -dsimp
  refine loop_to 12 l.length (fun k t => t.t 12 = .int .i64 k ∧ t.t 1 = rM l ∧ t.t 3 = .pt 0 0 0 ∧ t.t 2 = .int .i64 tick ∧ t.t 10 = .int .i64 (winN c l tick k).1 ∧ t.t 11 = .int .i64 (winN c l tick k).2 ∧ t.h 0 = some ⟨0, 0, [.int .i64 c.1, .int .i64 c.2], none⟩) (fun k t h => h.1) ?_ (fun k t hkl hI => ?_)
  · simp -dsimp [winN]
  · obtain ⟨i12, i1, i3, i2, i10, i11, h0⟩ := hI
    by_cases hk : k < l.length
    · have hlt' : (k : Int) < (l.length : Int) := by omega
      have hg := get_mAt hk
      have hxo := hM.ok _ (mAt_mem hk)
      have hw : winN c l tick (k + 1) = (max (winN c l tick k).1 (byS c (mAt l k) tick).1, min (winN c l tick k).2 (byS c (mAt l k) tick).2) := rfl
      have hw2 : IntKind.i64.wrap ((k : Int) + 1) = ((k + 1 : Nat) : Int) := by rw [IntWalk.i64_in _ (by omega)]; simp
      unfold l21_0
      simp -dsimp [i12, i1, i3, i2, hk, hlt', h0, m_ia hg, m_ld hg]
      refine call_pure (windowOf_ok hc hxo t0 t1) (by simp) (by simp) ?_
      simp -dsimp [i12, i1, i3, i2, i10, i11, h0, hw, hw2]
      omega
    · have hkl : k = l.length := by omega
      subst hkl
      have hE : winS c l tick = if (winN c l tick l.length).2 < (winN c l tick l.length).1 then (0, 0, 12) else ((winN c l tick l.length).1, (winN c l tick l.length).2, 0) := by unfold winS; rw [if_neg (by simpa using q)]
      rw [hE]
      unfold l21_0
      by_cases q2 : (winN c l tick l.length).2 < (winN c l tick l.length).1 <;> simp -dsimp [i12, i1, i10, i11, q2]
/-- A mark that contradicts another one. -/
def ctr (c : Clock) (x y : Mark) : Bool := decide ((byS c y x.1).2 < x.2.1 - x.2.2) || decide (x.2.1 + x.2.2 < (byS c y x.1).1)
def clB (c : Clock) (l : List Mark) (x : Mark) : Bool := l.any fun y => ctr c x y
def clashL (c : Clock) (l : List Mark) : Nat → List Int
  | 0 => []
  | k + 1 => if clB c l (mAt l k) = true then clashL c l k ++ [(k : Int)] else clashL c l k
def clashS (c : Clock) (l : List Mark) : List Int × Int := if clockE c ≠ 0 then ([], clockE c) else if marksE l ≠ 0 then ([], marksE l) else (clashL c l l.length, 0)
theorem clashL_len (c : Clock) (l : List Mark) : ∀ k, (clashL c l k).length ≤ k
  | 0 => by simp [clashL]
  | k + 1 => by
    have := clashL_len c l k
    unfold clashL
    split <;> simp <;> omega
theorem toRO2 {h : Hp} {id : Nat} {x y : Int} : toRO (upd h id (some ⟨0, 1, [.int .i64 x, .int .i64 y], none⟩)) 8 (.sl id 0 0 2 (some 2)) = some (rI [x, y]) := by
  simp [toRO, cellRO, upd, fl]
theorem ctr_body : hasBody Try.prog 69 = true := by kernel_rfl
theorem ctr_ex {c : Clock} (hc : ClockOk c) {x y : Mark} (hx : MarkOk x) (hy : MarkOk y) {h : Hp} {nx i j : Nat} (hi : i < nx) (hj : j < nx) (h1 : h i = some ⟨0, 0, [.int .i64 c.1, .int .i64 c.2], none⟩) (h2 : h j = some ⟨0, 0, [.int .i64 x.1, .int .i64 x.2.1, .int .i64 x.2.2], none⟩) :
    SEx Try.prog 69 [mkV y, .pt i 0 0, .pt j 0 0] h nx (Quiet (.bool (ctr c x y)) h nx) := by
  refine SEx.of hm h69 (of_decide_eq_true rfl) ?_
  unfold c69
  have di : ¬ i = nx := by omega
  have dj : ¬ j = nx := by omega
  have w1 : IntKind.i64.wrap (x.2.1 - x.2.2) = x.2.1 - x.2.2 := w_i64 (by have := hx.m0; have := hx.o1; omega) (by have := hx.m1; have := hx.o0; omega)
  have w2 : IntKind.i64.wrap (x.2.1 + x.2.2) = x.2.1 + x.2.2 := w_i64 (by have := hx.m0; have := hx.o0; omega) (by have := hx.m1; have := hx.o1; omega)
  simp -dsimp [h1, h2, di, dj]
  refine call_pure (by_ok hc hy hx.t0 hx.t1) (by simp) (by simp) ?_
  simp -dsimp [h1, h2, di, dj, w1, w2]
  have fin : ∀ b : Bool, ctr c x y = b → Quiet (.bool (ctr c x y)) h nx (.bool b) (upd h nx (some ⟨0, 0, [.int .i64 y.1, .int .i64 y.2.1, .int .i64 y.2.2], none⟩)) (nx + 1) := fun b hb => ⟨by rw [hb], by omega, fun j hj => by simp only [upd]; rw [if_neg (by omega)]⟩
  by_cases q : (byS c y x.1).2 < x.2.1 - x.2.2
  · simp -dsimp [q]
    exact fin true (by simp [ctr, q])
  · simp -dsimp [q, h2, dj, w2]
    exact fin _ (by simp [ctr, q])
theorem contains_ex {l : List Mark} (hl : l.length < 2 ^ 62) {p : Mark → Bool} {g nx : Nat} {caps : List V} {h : Hp} (hb : hasBody Try.prog g = true)
    (hcl : ∀ a ∈ l, ∀ h' nx', nx ≤ nx' → (∀ j, j < nx → h' j = h j) → SEx Try.prog g ([.agg (markCd.cells a)] ++ caps) h' nx' (Quiet (.bool (p a)) h' nx')) : SEx Try.prog 68 [rM l, .fn g caps] h nx (Quiet (.bool (l.any p)) h nx) := by
  refine SEx.of hm h68 (of_decide_eq_true rfl) ?_
  unfold c68
  simp -dsimp
  refine shr_ex (indexFunc_ok (d := markCd) hm h115 rfl (by decide) l hl p hb hcl) ?_
  rintro v h' nx' ⟨rfl, q1, q2⟩
  simp -dsimp
  have : decide (0 ≤ ixI p l) = l.any p := by
    have := ixI_neg (p := p) (l := l)
    cases ha : l.any p with
    | true => simp; rcases Int.lt_or_le (ixI p l) 0 with e | e; rw [this.1 e] at ha; cases ha; exact e
    | false => simp; exact this.2 ha
  exact ⟨by rw [this], q1, q2⟩
theorem Clashes_ok (c : Clock) (l : List Mark) : OkF Try.prog 20 [ckV c, rM l] (.tup [rI (clashS c l).1, .int .i64 (clashS c l).2], []) := by
  refine OkF.W0 hm h20 (of_decide_eq_true rfl) ?_
  unfold c20
  have hf := First_ok [clockE c, marksE l] (by simp)
  have hF : firstE [clockE c, marksE l] = if clockE c ≠ 0 then clockE c else marksE l := by
    simp only [firstE]
    by_cases a0 : clockE c = 0 <;> by_cases a1 : marksE l = 0 <;> simp [a0, a1]
  rw [hF] at hf
  simp -dsimp
  refine call_pure (CheckClock_ok c) (by simp) rfl ?_
  simp -dsimp
  refine call_pure (CheckMarks_ok l) (by simp) rfl ?_
  simp -dsimp [fillA, toRO2]
  refine call_int hf ?_
  simp -dsimp
  by_cases a0 : clockE c = 0
  rotate_left
  · have e : clashS c l = ([], clockE c) := by unfold clashS; rw [if_pos a0]
    simp -dsimp [a0, e]
  by_cases a1 : marksE l = 0
  rotate_left
  · have e : clashS c l = ([], marksE l) := by unfold clashS; rw [if_neg (by simpa using a0), if_pos a1]
    simp -dsimp [a0, a1, e]
  have e : clashS c l = (clashL c l l.length, 0) := by unfold clashS; rw [if_neg (by simpa using a0), if_neg (by simpa using a1)]
  have hc := clock_good a0
  have hM := marks_good a1
  have hp := hM.pos; have hmo := hM.most
  simp -dsimp [a0, a1]
  refine for_lt l.length (fun k t => t.t 1 = rM l ∧ t.t 2 = .pt 0 0 0 ∧ t.t 19 = rM l ∧ t.h 0 = some ⟨0, 0, [.int .i64 c.1, .int .i64 c.2], none⟩ ∧ 1 ≤ t.nx ∧ Acc ic t.h t.nx (t.t 7) (clashL c l k) ∧ ∀ j, ownOf (t.t 7) = some j → 1 ≤ j) rfl (by omega) ?_ (by simp -dsimp) (by simp -dsimp) (fun k t hk hI hi hn => ?_) (fun t hI hi hn => ?_)
  · exact ⟨by simp -dsimp, by simp -dsimp, by simp -dsimp, by simp -dsimp, by simp -dsimp, by simp -dsimp [clashL, Acc.nil], fun j hj => by simp [ownOf] at hj⟩
  · obtain ⟨i1, i2, i19, h0, inx, hA, hown⟩ := hI
    have hg := get_mAt hk
    have hxo := hM.ok _ (mAt_mem hk)
    have hS : clashL c l (k + 1) = if clB c l (mAt l k) = true then clashL c l k ++ [(k : Int)] else clashL c l k := rfl
    have hlen := clashL_len c l k
    have n0 : ¬ 0 = t.nx := by omega
    generalize mAt l k = x at *
    unfold k20_0
    simp -dsimp [i1, i2, i19, hi, hn, m_ia hg, m_ld hg, n0]
    generalize hh : upd (upd t.h t.nx _) t.nx _ = h1
    have hx1 : h1 t.nx = some ⟨0, 0, [.int .i64 x.1, .int .i64 x.2.1, .int .i64 x.2.2], none⟩ := by rw [← hh]; simp
    have hr1 : ∀ j, j < t.nx → h1 j = t.h j := fun j hj => by rw [← hh]; simp only [upd]; rw [if_neg (by omega), if_neg (by omega)]
    have h10 : h1 0 = some ⟨0, 0, [.int .i64 c.1, .int .i64 c.2], none⟩ := by rw [hr1 0 (by omega), h0]
    refine shr_ex (contains_ex (l := l) (p := fun y => ctr c x y) (caps := [.pt 0 0 0, .pt t.nx 0 0]) (by omega) ctr_body fun y hy h' nx' a1 a2 => ?_) ?_
    · exact ctr_ex hc hxo (hM.ok y hy) (by omega) (by omega) (by rw [a2 0 (by omega), h10]) (by rw [a2 t.nx (by omega), hx1])
    rintro v h' nx' ⟨rfl, g1, g2⟩
    have hA' : Acc ic h' nx' (t.t 7) (clashL c l k) := hA.mono (by omega) fun j hj => by rw [g2 j (by omega), hr1 j hj]
    have h0' : h' 0 = some ⟨0, 0, [.int .i64 c.1, .int .i64 c.2], none⟩ := by rw [g2 0 (by omega), h10]
    simp -dsimp
    cases q : l.any (fun y => ctr c x y) with
    | true =>
      rw [if_pos (by unfold clB; exact q)] at hS
      simp -dsimp [fillA]
      refine push_acc (x := (k : Int)) hA' rfl rfl (by omega) (by omega) fun v' h2 nx2 b1 b2 b3 b4 => ?_
      simp -dsimp [hi, hn, i1, i2, i19, hS]
      refine ⟨by rw [b3 0 (by omega) (fun e => by have := hown 0 e; omega), h0'], by omega, b1, fun j hj => ?_⟩
      rcases b4 j hj with e | e
      · exact hown j e
      · omega
    | false =>
      rw [if_neg (by unfold clB; rw [q]; decide)] at hS
      simp -dsimp [hi, hn, i1, i2, i19, hS]
      exact ⟨h0', by omega, hA', hown⟩
  · have e2 := hI.2.2.2.2.2.1.ex1
    simp -dsimp
    simp [e, e2]
theorem self_ok {c : Clock} {x : Mark} (hx : MarkOk x) : ctr c x x = false := by
  have := hx.o0
  unfold ctr byS up
  simp
  omega
/-- What some other mark among the first j contradicts. -/
theorem any_skip {c : Clock} {l : List Mark} (hM : MarksOk l) {k : Nat} (hk : k < l.length) : ∀ j, j ≤ l.length → ((l.take j).any fun y => ctr c (mAt l k) y) = (List.range j).any fun i => decide (i ≠ k) && ctr c (mAt l k) (mAt l i)
  | 0, _ => by simp
  | j + 1, hj => by
    have ih := any_skip (c := c) hM hk j (by omega)
    have hg := get_mAt (l := l) (k := j) (by omega)
    have ht : l.take (j + 1) = l.take j ++ [mAt l j] := by
      rw [List.take_succ_eq_append_getElem (by omega)]
      congr 2
      exact (List.getElem?_eq_some_iff.1 hg).2
    rw [ht, List.any_append, ih, List.range_succ, List.any_append]
    simp only [List.any_cons, List.any_nil, Bool.or_false]
    by_cases q : j = k
    · subst q
      rw [self_ok (hM.ok _ (mAt_mem hk))]
      simp
    · simp [q]
def skipB (c : Clock) (l : List Mark) (k : Nat) : Nat → Bool
  | 0 => false
  | j + 1 => skipB c l k j || (decide (j ≠ k) && ctr c (mAt l k) (mAt l j))
theorem skip_eq {c : Clock} {l : List Mark} (hM : MarksOk l) {k : Nat} (hk : k < l.length) : skipB c l k l.length = clB c l (mAt l k) := by
  have key : ∀ j, skipB c l k j = (List.range j).any fun i => decide (i ≠ k) && ctr c (mAt l k) (mAt l i) := by
    intro j
    induction j with
    | zero => rfl
    | succ j ih => rw [List.range_succ, List.any_append, ← ih]; simp [skipB]
  rw [key, ← any_skip hM hk _ (Nat.le_refl _), List.take_length]
  rfl
theorem ClashesR_ok (c : Clock) (l : List Mark) : OkF Try.prog 22 [ckV c, rM l] (.tup [rI (clashS c l).1, .int .i64 (clashS c l).2], []) := by
  refine OkF.W0 hm h22 (of_decide_eq_true rfl) ?_
  unfold c22
  simp -dsimp
  refine call_pure (checkBoth_ok c l) (by simp) rfl ?_
  simp -dsimp
  by_cases a0 : clockE c = 0
  rotate_left
  · have e : clashS c l = ([], clockE c) := by unfold clashS; rw [if_pos a0]
    simp -dsimp [a0, e]
  by_cases a1 : marksE l = 0
  rotate_left
  · have e : clashS c l = ([], marksE l) := by unfold clashS; rw [if_neg (by simpa using a0), if_pos a1]
    simp -dsimp [a0, a1, e]
  have e : clashS c l = (clashL c l l.length, 0) := by unfold clashS; rw [if_neg (by simpa using a0), if_neg (by simpa using a1)]
  have hc := clock_good a0
  have hM := marks_good a1
  have hp := hM.pos; have hmo := hM.most
  simp -dsimp [a0, a1]
  refine loop_to 8 l.length (fun k t => t.t 8 = .int .i64 k ∧ t.t 1 = rM l ∧ t.t 2 = .pt 0 0 0 ∧ t.h 0 = some ⟨0, 0, [.int .i64 c.1, .int .i64 c.2], none⟩ ∧ 1 ≤ t.nx ∧ Acc ic t.h t.nx (t.t 7) (clashL c l k) ∧ ∀ j, ownOf (t.t 7) = some j → 1 ≤ j) (fun k t h => h.1) ?_ (fun k t hkl hI => ?_)
  · exact ⟨by simp -dsimp, by simp -dsimp, by simp -dsimp, by simp -dsimp, by simp -dsimp, by simp -dsimp [clashL, Acc.nil], fun j hj => by simp [ownOf] at hj⟩
  · obtain ⟨i8, i1, i2, h0, inx, hA, hown⟩ := hI
    by_cases hk : k < l.length
    · have hlt' : (k : Int) < (l.length : Int) := by omega
      have hg := get_mAt hk
      have hxo := hM.ok _ (mAt_mem hk)
      have hsk := skip_eq (c := c) hM hk
      have hS : clashL c l (k + 1) = if clB c l (mAt l k) = true then clashL c l k ++ [(k : Int)] else clashL c l k := rfl
      have hlen := clashL_len c l k
      have hw2 : IntKind.i64.wrap ((k : Int) + 1) = ((k + 1 : Nat) : Int) := by rw [IntWalk.i64_in _ (by omega)]; simp
      have w1 : IntKind.i64.wrap ((mAt l k).2.1 - (mAt l k).2.2) = (mAt l k).2.1 - (mAt l k).2.2 := w_i64 (by have := hxo.m0; have := hxo.o1; omega) (by have := hxo.m1; have := hxo.o0; omega)
      have w2 : IntKind.i64.wrap ((mAt l k).2.1 + (mAt l k).2.2) = (mAt l k).2.1 + (mAt l k).2.2 := w_i64 (by have := hxo.m0; have := hxo.o0; omega) (by have := hxo.m1; have := hxo.o1; omega)
      unfold l22_1
      simp -dsimp [i8, i1, hk, hlt']
      refine loop_to 10 l.length (fun j s => s.t 10 = .int .i64 j ∧ s.t 8 = .int .i64 k ∧ s.t 1 = rM l ∧ s.t 2 = .pt 0 0 0 ∧ s.t 7 = t.t 7 ∧ s.h = t.h ∧ s.nx = t.nx ∧ s.t 9 = .bool (skipB c l k j)) (fun j s h => h.1) ?_ (fun j s hjl hJ => ?_)
      · simp -dsimp [i8, i1, i2, skipB]
      · obtain ⟨j10, j8, j1, j2, j7, jh, jnx, j9⟩ := hJ
        by_cases hj : j < l.length
        · have hjt' : (j : Int) < (l.length : Int) := by omega
          have hgj := get_mAt hj
          have hyo := hM.ok _ (mAt_mem hj)
          have hwj : IntKind.i64.wrap ((j : Int) + 1) = ((j + 1 : Nat) : Int) := by rw [IntWalk.i64_in _ (by omega)]; simp
          have hsj : skipB c l k (j + 1) = (skipB c l k j || (decide (j ≠ k) && ctr c (mAt l k) (mAt l j))) := rfl
          have hct : ctr c (mAt l k) (mAt l j) = (decide ((byS c (mAt l j) (mAt l k).1).2 < (mAt l k).2.1 - (mAt l k).2.2) || decide ((mAt l k).2.1 + (mAt l k).2.2 < (byS c (mAt l j) (mAt l k).1).1)) := rfl
          unfold l22_0
          simp -dsimp [j10, j1, j2, j8, hj, hjt', jh, h0, m_ia hgj, m_ld hgj, m_ia hg, m_l0 hg]
          refine call_pure (windowOf_ok hc hyo hxo.t0 hxo.t1) (by simp) (by simp) ?_
          simp -dsimp [j9]
          cases q0 : skipB c l k j with
          | true =>
            rw [q0] at hsj
            simp -dsimp [j10, j8, j1, j2, j7, jh, jnx, hwj, hsj]
            omega
          | false =>
            rw [q0] at hsj
            simp -dsimp [j10, j8]
            by_cases q1 : j = k
            · subst q1
              simp -dsimp [j10, j8, j1, j2, j7, jh, jnx, hwj, hsj]
              omega
            · have q1' : ¬ ((j : Int) = (k : Int)) := by omega
              simp -dsimp [q1, q1', j1, j8, m_ia hg, m_l1 hg, m_l2 hg, w1]
              by_cases q2 : (byS c (mAt l j) (mAt l k).1).2 < (mAt l k).2.1 - (mAt l k).2.2
              · simp -dsimp [q2, j10, j8, j1, j2, j7, jh, jnx, hwj, hsj, hct, q1]
                omega
              · simp -dsimp [q2, j10, j8, j1, j2, j7, jh, jnx, hwj, hsj, hct, q1, m_ia hg, m_l1 hg, m_l2 hg, w2]
                omega
        · have hje : j = l.length := by omega
          subst hje
          rw [hsk] at j9
          unfold l22_0
          simp -dsimp [j10, j1, j9]
          cases q : clB c l (mAt l k) with
          | true =>
            rw [if_pos q] at hS
            rw [← jh, ← jnx, ← j7] at hA
            simp -dsimp [fillA, j8]
            refine push_acc (x := (k : Int)) hA rfl rfl (by omega) (by omega) fun v' h2 nx2 b1 b2 b3 b4 => ?_
            simp -dsimp [j8, hw2, j1, j2, hS]
            rw [j7] at b3 b4
            refine ⟨by omega, by rw [b3 0 (by omega) (fun e => by have := hown 0 e; omega), jh, h0], by omega, b1, fun j hj => ?_⟩
            rcases b4 j hj with e | e
            · exact hown j e
            · omega
          | false =>
            rw [if_neg (by rw [q]; decide)] at hS
            simp -dsimp [j8, hw2, j1, j2, hS, jh, jnx, j7]
            exact ⟨by omega, h0, inx, hA, hown⟩
    · have hkl : k = l.length := by omega
      subst hkl
      have e2 := hA.ex1
      unfold l22_1
      simp -dsimp [i8, i1]
      simp [e, e2]
theorem clashS_len (c : Clock) (l : List Mark) : (clashS c l).1.length < 2 ^ 62 := by
  unfold clashS
  split
  · simp
  · split
    · simp
    · rename_i q
      have hM := marks_good (l := l) (by simpa using q)
      have := hM.most; have := clashL_len c l l.length
      simp only
      omega
end Go.Proofs.P3
